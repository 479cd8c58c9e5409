/- Leaves and nodes: contracts of the digest's functions Leaf and Node. -/
import Derived.Test.YtjamakapkpkfeaaDoorSum
import Derived.Test.YtjamakapkpkfeaaDoorShelf
namespace Go.Proofs.YtjamakapkpkfeaaDoor
open Go.RowKit Go.Shelf Sha

namespace Sha
def leaf (s : ByteArray) : ByteArray := sha ((⟨#[0]⟩ : ByteArray) ++ s)
def node (a b : ByteArray) : ByteArray := sha ((⟨#[1]⟩ : ByteArray) ++ a ++ b)
end Sha

set_option maxRecDepth 100000 in
set_option maxHeartbeats 1000000 in
theorem marked1_any (B : Nat) (m : ByteArray) (bk c : Nat) (xs : List ByteArray) (w : World) (hB : w.cell? ⟨B, 0, none⟩ = some (.string m)) (ht : Tab w) (hbk : bk < w.heap.size) (hcells : ∀ (j : Nat) x, xs[j]? = some x → w.cell? ⟨bk, 0 + j, none⟩ = some (.string x))
    (hcap : xs.length ≤ c) (hN : xs.length ≤ 1000) (j : ByteArray) (hj : (⟨(Lib.join (xs.map (·.data.toList)) (⟨#[]⟩ : ByteArray).data.toList).toArray⟩ : ByteArray) = j) (hlen : (m ++ j).size ≤ 1099511627776) :
    Calls Tryd.prog 70 #[.slice (some ⟨bk, 0, none⟩) xs.length c, .pointer (some ⟨B, 0, none⟩)] w fun e w' => e = .returned (.string (sha (m ++ j))) ∧ Ext w w' := by
  have hjl : (Lib.join (xs.map (·.data.toList)) (⟨#[]⟩ : ByteArray).data.toList).length ≤ 140737488355328 := by
    have h1 : (Lib.join (xs.map (·.data.toList)) (⟨#[]⟩ : ByteArray).data.toList).length = j.size := by rw [← hj]; simp [ByteArray.size]
    have h2 : (m ++ j).size = m.size + j.size := ByteArray.size_append
    omega
  have hns : m.size + j.size ≤ 1099511627776 := by rw [← ByteArray.size_append]; exact hlen
  have HJ := Lib.hid hj
  clear hj
  have HC := Lib.hid hcells
  have HL := Lib.hid hjl
  have HM := Lib.hid hlen
  clear hcells hjl hlen
  go_enter Tryd.func70, Tryd.ntmps70
  have f1 : ∀ u, (wplus w u).cell? ⟨B, 0, none⟩ = some (.string m) := fun u => (ext_wplus w u).cell hB
  go_wp2
  refine wp_region_plan [] (.step 0 .read (.step 1 .pure (.step 2 (.eff false) (.step 3 .pure (.step 4 (.eff false) (.step 5 .pure (.fin))))))) (by kernel_rfl) (by kernel_rfl) (Ext.refl w) ?_
  simp only [pickOps, List.getD_cons_zero, List.getD_cons_succ]
  repeat (first
    | (refine plan_pure (by rfl) ?_; intro N hN; go_big_quiet_op; go_big_quiet_on)
    | (refine plan_read (by rfl) ?_; intro N hN; go_big_quiet_op; go_big_quiet_on)
    | (refine plan_skip (by rfl) ?_; simp only [Act.put, List.setIfInBounds_toArray, List.set_cons_zero, List.set_cons_succ]))
  refine plan_eff (by rfl) ?_
  intro N hN
  go_big_op
  refine (Tryd.strings_Join bk 0 c xs ⟨#[]⟩ w.drew HC.out hbk (by omega) hcap HL.out).mono ?_
  rintro e w1 ⟨rfl, hE1⟩
  rw [HJ.out]
  have hE2 : Ext w w1 := (Ext.refl w).drew.trans hE1
  refine hN _ w w1 (fun _ => Ext.refl _) hE2 ?_
  repeat (first
    | (refine plan_pure (by rfl) ?_; intro N hN; go_big_quiet_op; go_big_quiet_on)
    | (refine plan_read (by rfl) ?_; intro N hN; go_big_quiet_op; go_big_quiet_on)
    | (refine plan_skip (by rfl) ?_; simp only [Act.put, List.setIfInBounds_toArray, List.set_cons_zero, List.set_cons_succ]))
  refine plan_eff (by rfl) ?_
  intro N hN
  go_big_op
  refine (sum_any (m ++ j) HM.out w1 (ht.ext hE2)).mono ?_
  rintro e w2 ⟨rfl, hE3⟩
  refine hN _ w w2 (fun _ => Ext.refl _) (hE2.trans hE3) ?_
  repeat (first
    | (refine plan_pure (by rfl) ?_; intro N hN; go_big_quiet_op; go_big_quiet_on)
    | (refine plan_read (by rfl) ?_; intro N hN; go_big_quiet_op; go_big_quiet_on)
    | (refine plan_skip (by rfl) ?_; simp only [Act.put, List.setIfInBounds_toArray, List.set_cons_zero, List.set_cons_succ]))
  refine plan_nil ?_
  go_wp2
  go_ret
  exact ⟨rfl, hE2.trans hE3⟩

theorem mk_bytes (x : ByteArray) : (⟨x.data.toList.toArray⟩ : ByteArray) = x := by simp
theorem join_one (x : ByteArray) : (⟨(Lib.join ([x].map (·.data.toList)) (⟨#[]⟩ : ByteArray).data.toList).toArray⟩ : ByteArray) = x := by
  rw [List.map_cons, List.map_nil, Lib.join_one]
theorem join_two (a b : ByteArray) : (⟨(Lib.join ([a, b].map (·.data.toList)) (⟨#[]⟩ : ByteArray).data.toList).toArray⟩ : ByteArray) = a ++ b := by
  simp [Lib.join]
  apply ByteArray.ext
  simp

set_option maxRecDepth 100000 in
set_option maxHeartbeats 1000000 in
theorem leaf_any (s : ByteArray) (hs : s.size ≤ 1000000000) (w : World) (ht : Tab w) : Calls Tryd.prog 59 #[.string s] w fun e w' => e = .returned (.string (leaf s)) ∧ Ext w w' := by
  have HS := Lib.hid hs
  go_enter Tryd.func59, Tryd.ntmps59
  have h1 := (Row.new w 9 [.string ⟨#[0]⟩]).alloc (.cells #[.string s] 9)
  have h2 := Row.new (w.alloc (.cells #[.string ⟨#[0]⟩] 9)) 9 [.string s]
  have hE : Ext w ((w.alloc (.cells #[.string ⟨#[0]⟩] 9)).alloc (.cells #[.string s] 9)) := ((Ext.refl w).alloc _).alloc _
  rw [World.size_alloc] at h2
  go_wp2_with (first
    | (go_at_call 70; go_loud (refine (marked1_any _ ⟨#[0]⟩ _ 1 [s] _ (h1.cell 0 Nat.zero_lt_one) (ht.ext hE) h2.lt (fun j x hx => by
        match j, hx with
        | 0, hx => cases hx; exact h2.cell 0 Nat.zero_lt_one) (Nat.le_refl _) (by show 1 ≤ 1000; decide) s (join_one s) (by rw [ByteArray.size_append]; have := HS.out; show 1 + s.size ≤ _; omega)).mono ?_; rintro e w1 ⟨rfl, hE1⟩))
    | (go_at_call 67; go_in))
  go_ret
  exact ⟨rfl, hE.trans hE1⟩

theorem size_one (b : UInt8) (s : ByteArray) : ((⟨#[b]⟩ : ByteArray) ++ s).size = s.size + 1 := by rw [ByteArray.size_append]; show 1 + s.size = _; omega

set_option maxRecDepth 100000 in
set_option maxHeartbeats 1000000 in
theorem node_any (a b : ByteArray) (ha : a.size ≤ 1000000000) (hb : b.size ≤ 1000000000) (w : World) (ht : Tab w) : Calls Tryd.prog 58 #[.string a, .string b] w fun e w' => e = .returned (.string (node a b)) ∧ Ext w w' := by
  have HA := Lib.hid ha
  have HB := Lib.hid hb
  go_enter Tryd.func58, Tryd.ntmps58
  have h1 := (Row.new w 9 [.string ⟨#[1]⟩]).alloc (.cells #[.string a, .string b] 9)
  have h2 := Row.new (w.alloc (.cells #[.string ⟨#[1]⟩] 9)) 9 [.string a, .string b]
  have hE : Ext w ((w.alloc (.cells #[.string ⟨#[1]⟩] 9)).alloc (.cells #[.string a, .string b] 9)) := ((Ext.refl w).alloc _).alloc _
  rw [World.size_alloc] at h2
  go_wp2_with (first
    | (go_at_call 70; go_loud (refine (marked1_any _ ⟨#[1]⟩ _ 2 [a, b] _ (h1.cell 0 Nat.zero_lt_one) (ht.ext hE) h2.lt (fun j x hx => by
        match j, hx with
        | 0, hx => cases hx; exact h2.cell 0 (by show 0 < 2; decide)
        | 1, hx => cases hx; exact h2.cell 1 (by show 1 < 2; decide)) (Nat.le_refl _) (by show 2 ≤ 1000; decide) (a ++ b) (join_two a b) (by rw [size_one, ByteArray.size_append]; have := HA.out; have := HB.out; omega)).mono ?_; rintro e w1 ⟨rfl, hE1⟩))
    | (go_at_call 67; go_in))
  go_ret
  refine ⟨?_, hE.trans hE1⟩
  rw [← ByteArray.append_assoc]
  rfl
end Go.Proofs.YtjamakapkpkfeaaDoor
