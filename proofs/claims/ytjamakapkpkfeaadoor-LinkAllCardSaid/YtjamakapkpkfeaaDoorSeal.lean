/- Packets: their seals; who takes them for genuine: contracts of both texts. -/
import Derived.Test.YtjamakapkpkfeaaDoorPut
namespace Go.Proofs.YtjamakapkpkfeaaDoor
open Go.RowKit Go.Shelf Sha

/-- A packet. -/
structure Pkt where
  ser : Int
  ack : Int
  body : ByteArray
  sl : ByteArray
def Pkt.cells (p : Pkt) : List Value := [.int .i64 p.ser, .int .i64 p.ack, .string p.body, .string p.sl]
def Pkt.val (p : Pkt) : Value := .agg p.cells.toArray

namespace Sha
/-- What is sealed of a packet. -/
def content (p : Pkt) : ByteArray := int 8 ++ int p.ser.toNat ++ int p.ack.toNat ++ puts p.body
def sealOf (key : ByteArray) (p : Pkt) : ByteArray := node key (leaf (content p))
end Sha

theorem sha_size (s : ByteArray) : (sha s).size = 32 := by rw [sha_eq, str_size, sum_eq, out_length]
theorem puts_size (s : ByteArray) : (puts s).size ≤ 3 + s.size := by
  show (int s.size ++ s).size ≤ _
  rw [ByteArray.size_append]; have := int_size s.size; omega
theorem cat3 (a b c : Nat) : cat [a, b, c] 3 = int a ++ int b ++ int c := by
  show (⟨#[]⟩ : ByteArray) ++ int a ++ int b ++ int c = _
  rw [show (⟨#[]⟩ : ByteArray) ++ int a = int a from ByteArray.empty_append]

set_option maxRecDepth 100000 in
set_option maxHeartbeats 1000000 in
theorem seal_any (key : ByteArray) (hk : key.size ≤ 1000) (p : Pkt) (h1 : 0 ≤ p.ser) (h2 : p.ser ≤ 1000000) (h3 : 0 ≤ p.ack) (h4 : p.ack ≤ 1000000) (h5 : p.body.size ≤ 60000) (w : World) (ht : Tab w) :
    Calls Tryd.prog 48 #[.string key, p.val] w fun e w' => e = .returned (.string (sealOf key p)) ∧ Ext w w' := by
  obtain ⟨ser, ack, body, sl⟩ := p
  obtain ⟨ns, rfl⟩ : ∃ n : Nat, ser = n := ⟨ser.toNat, by simp at h1; omega⟩
  obtain ⟨na, rfl⟩ : ∃ n : Nat, ack = n := ⟨ack.toNat, by simp at h3; omega⟩
  simp only at h1 h2 h3 h4 h5
  have hps := puts_size body
  have HB := Lib.hid h5
  go_enter Tryd.func48, Tryd.ntmps48
  unfold Pkt.val Pkt.cells
  have hr0 := Row.new w 24 [.int .i64 (ns : Nat), .int .i64 (na : Nat), .string body, .string sl]
  have hE0 := (Ext.refl w).alloc (.cells [.int .i64 (ns : Nat), .int .i64 (na : Nat), .string body, .string sl].toArray 24)
  go_wp2_with (first
    | (go_at_call 57; refine (putstring_any body HB.out _).mono ?_; rintro e w1 ⟨rfl, hE1⟩; have hc0 := (hr0.ext hE1).cell 0 (by show 0 < 4; decide); have hc1 := (hr0.ext hE1).cell 1 (by show 1 < 4; decide))
    | (go_at_call 60; go_loud (refine (put_any _ _ [8, ns, na] (by show 3 ≤ 10; decide) (fun j hj => by
          have hj : j < 3 := hj
          rcases (show j = 0 ∨ j = 1 ∨ j = 2 by omega) with rfl | rfl | rfl
          · show 8 ≤ 1000000; decide
          · show ns ≤ 1000000; omega
          · show na ≤ 1000000; omega) _ (cells_of_row (k := .i64) (Row.new w1 3 (vals .i64 [8, ns, na])))).mono ?_; rintro e w2 ⟨rfl, hE2⟩; have hcs := cat_size [8, ns, na] 3; have hcl : cat [8, ns, na] [8, ns, na].length = cat [8, ns, na] 3 := rfl; rw [hcl]))
    | (go_at_call 59; go_loud (refine (leaf_any _ (by rw [ByteArray.size_append]; have := HB.out; omega) _ ((((ht.ext hE0).ext hE1).ext ((Ext.refl w1).alloc _)).ext hE2)).mono ?_; rintro e w3 ⟨rfl, hE3⟩))
    | (go_at_call 58; go_loud (refine (node_any _ _ (by omega) (by unfold leaf; rw [sha_size]; decide) _ (((((ht.ext hE0).ext hE1).ext ((Ext.refl w1).alloc _)).ext hE2).ext hE3)).mono ?_; rintro e w4 ⟨rfl, hE4⟩)))
  go_ret
  refine ⟨?_, ((((hE0.trans hE1).alloc _).trans hE2).trans hE3).trans hE4⟩
  show Ending.returned (Value.string (node key (leaf (cat [8, ns, na] 3 ++ puts body)))) = _
  rw [cat3]
  rfl

theorem putint2_eight (w : World) : Calls Tryd.prog 62 #[.int .i64 8] w fun e w' => e = .returned (.tuple #[.string (int 8), .int .i64 0]) ∧ Ext w w' := putint2_any 8 (by decide) w

set_option maxRecDepth 100000 in
set_option maxHeartbeats 1000000 in
theorem content_any (p : Pkt) (h1 : 0 ≤ p.ser) (h2 : p.ser ≤ 1000000) (h3 : 0 ≤ p.ack) (h4 : p.ack ≤ 1000000) (h5 : p.body.size ≤ 60000) (w : World) :
    Calls Tryd.prog 52 #[p.val] w fun e w' => e = .returned (.string (content p)) ∧ Ext w w' := by
  obtain ⟨ser, ack, body, sl⟩ := p
  obtain ⟨ns, rfl⟩ : ∃ n : Nat, ser = n := ⟨ser.toNat, by simp at h1; omega⟩
  obtain ⟨na, rfl⟩ : ∃ n : Nat, ack = n := ⟨ack.toNat, by simp at h3; omega⟩
  simp only at h1 h2 h3 h4 h5
  have hps := puts_size body
  have hi8 := int_size 8
  have hin := int_size ns
  have hia := int_size na
  have HB := Lib.hid h5
  go_enter Tryd.func52, Tryd.ntmps52
  unfold Pkt.val Pkt.cells
  have hr0 := Row.new w 24 [.int .i64 (ns : Nat), .int .i64 (na : Nat), .string body, .string sl]
  have hE0 := (Ext.refl w).alloc (.cells [.int .i64 (ns : Nat), .int .i64 (na : Nat), .string body, .string sl].toArray 24)
  have hs1 : (int 8 ++ int ns).size = (int 8).size + (int ns).size := ByteArray.size_append
  have hs2 : (int 8 ++ int ns ++ int na).size = (int 8).size + (int ns).size + (int na).size := by rw [ByteArray.size_append, hs1]
  go_wp2_with (first
    | (go_at_call 62; (with_reducible refine (putint2_eight _).mono ?_); rintro e w1 ⟨rfl, hE1⟩; have hc0 := (hr0.ext hE1).cell 0 (by show 0 < 4; decide); have hc1 := (hr0.ext hE1).cell 1 (by show 1 < 4; decide); have hc2 := (hr0.ext hE1).cell 2 (by show 2 < 4; decide))
    | (go_at_call 62; (with_reducible refine (putint2_any ns (by omega) _).mono ?_); rintro e w2 ⟨rfl, hE2⟩; have hd1 := ((hr0.ext hE1).ext hE2).cell 1 (by show 1 < 4; decide); have hd2 := ((hr0.ext hE1).ext hE2).cell 2 (by show 2 < 4; decide))
    | (go_at_call 62; (with_reducible refine (putint2_any na (by omega) _).mono ?_); rintro e w3 ⟨rfl, hE3⟩; have he2 := (((hr0.ext hE1).ext hE2).ext hE3).cell 2 (by show 2 < 4; decide))
    | (go_at_call 63; refine (putstring2_any body HB.out _).mono ?_; rintro e w4 ⟨rfl, hE4⟩))
  go_ret
  exact ⟨rfl, (((hE0.trans hE1).trans hE2).trans hE3).trans hE4⟩
theorem content_size (p : Pkt) : (content p).size ≤ 12 + p.body.size := by
  unfold content
  rw [ByteArray.size_append, ByteArray.size_append, ByteArray.size_append]
  have := int_size 8; have := int_size p.ser.toNat; have := int_size p.ack.toNat; have := puts_size p.body
  omega

set_option maxRecDepth 100000 in
set_option maxHeartbeats 1000000 in
theorem seal2_any (key : ByteArray) (hk : key.size ≤ 1000) (p : Pkt) (h1 : 0 ≤ p.ser) (h2 : p.ser ≤ 1000000) (h3 : 0 ≤ p.ack) (h4 : p.ack ≤ 1000000) (h5 : p.body.size ≤ 60000) (w : World) :
    Calls Tryd.prog 41 #[.string key, p.val] w fun e w' => e = .returned (.string (sealOf key p)) ∧ Ext w w' := by
  have hcs := content_size p
  have HC := fun w => Lib.hid (content_any p h1 h2 h3 h4 h5 w)
  have HB := Lib.hid h5
  clear h1 h2 h3 h4 h5
  go_enter Tryd.func41, Tryd.ntmps41
  unfold Pkt.val Pkt.cells at *
  have hE0 := (Ext.refl w).alloc (.cells [.int .i64 p.ser, .int .i64 p.ack, .string p.body, .string p.sl].toArray 24)
  go_wp2_with (first
    | (go_at_call 52; go_loud (refine ((HC _).out).mono ?_; rintro e w1 ⟨rfl, hE1⟩))
    | (go_at_call 43; go_loud (refine (leaf2_any _ (by have := HB.out; omega) _).mono ?_; rintro e w3 ⟨rfl, hE3⟩))
    | (go_at_call 42; go_loud (refine (node2_any _ _ (by omega) (by unfold leaf; rw [sha_size]; decide) _).mono ?_; rintro e w4 ⟨rfl, hE4⟩)))
  go_ret
  exact ⟨rfl, ((hE0.trans hE1).trans hE3).trans hE4⟩
end Go.Proofs.YtjamakapkpkfeaaDoor
