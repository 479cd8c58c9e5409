/- Numbers and strings as they go over the wire: contracts of both texts. -/
import Derived.Test.YtjamakapkpkfeaaDoorSum2
namespace Go.Proofs.YtjamakapkpkfeaaDoor
open Go.RowKit Go.Shelf Sha
attribute [local go_sem] Oper.semAt_some

namespace Sha
/-- The bytes of a number, least first, each but the last one with its highest bit set. -/
def cont (z j : Nat) : Nat := z / 128 ^ j % 128 + 128
def lead (z : Nat) : Nat → List Nat
  | 0 => []
  | j + 1 => lead z j ++ [cont z j]
def ngr (z : Nat) : Nat := if z < 128 then 0 else if z < 16384 then 1 else 2
def leb (z : Nat) : List Nat := lead z (ngr z) ++ [z / 128 ^ ngr z]
/-- A number's text. -/
def int (n : Nat) : ByteArray := str (leb (2 * n))
def puts (s : ByteArray) : ByteArray := int s.size ++ s
theorem lead_zero (z : Nat) : lead z 0 = [] := rfl
theorem lead_succ (z j : Nat) : lead z (j + 1) = lead z j ++ [cont z j] := rfl
theorem leb_eq (z : Nat) : leb z = lead z (ngr z) ++ [z / 128 ^ ngr z] := rfl
end Sha
theorem ngr_le (z : Nat) : ngr z ≤ 2 := by unfold ngr; split <;> (try split) <;> omega
theorem ngr_more {z j : Nat} (hj : j < ngr z) : 128 ≤ z / 128 ^ j := by
  unfold ngr at hj
  split at hj
  · omega
  · split at hj
    · have : j = 0 := by omega
      subst this; simp; omega
    · rcases (show j = 0 ∨ j = 1 by omega) with rfl | rfl <;> simp <;> omega
theorem ngr_last {z : Nat} (hz : z < 2097152) : z / 128 ^ ngr z < 128 := by
  unfold ngr
  split
  · simpa
  · split <;> simp <;> omega
theorem lead_length (z j : Nat) : (lead z j).length = j := by
  induction j with
  | zero => rfl
  | succ j ih => rw [lead_succ, List.length_append, ih]; rfl
theorem leb_length (z : Nat) : (leb z).length = ngr z + 1 := by rw [leb_eq, List.length_append, lead_length]; rfl
theorem lead_good (z : Nat) : ∀ j, Good (lead z j) 256
  | 0 => by intro j hj; cases hj
  | j + 1 => by
    rw [lead_succ]
    refine good_append (lead_good z j) ?_
    rw [good_iff]; intro x hx; rw [List.mem_singleton.1 hx]; unfold cont; omega
theorem leb_good {z : Nat} (hz : z < 2097152) : Good (leb z) 256 := by
  rw [leb_eq]
  refine good_append (lead_good z _) ?_
  rw [good_iff]; intro x hx; rw [List.mem_singleton.1 hx]; have := ngr_last hz; omega
theorem str_size (l : List Nat) : (str l).size = l.length := by unfold str; show (l.map UInt8.ofNat).toArray.size = _; simp
theorem int_size (n : Nat) : (int n).size ≤ 3 := by unfold int; rw [str_size, leb_length]; have := ngr_le (2 * n); omega
theorem div_step (z j : Nat) : z / 128 ^ j / 128 = z / 128 ^ (j + 1) := by rw [Nat.pow_succ, ← Nat.div_div_eq_div_mul]

theorem mask_seven (y : Nat) (h : y < 2097152) : bits BinOp.and IntKind.u64 (y : Int) 127 % 256 = ((y % 128 : Nat) : Int) := by
  have hk : ∀ n : Int, 0 ≤ n → n < 2 ^ 64 → IntKind.u64.wrap n = n := by intro n h0 h1; simp [IntKind.wrap, IntKind.bits, IntKind.signed]; omega
  have := bits_mask .u64 64 (by decide) hk 7 (by decide) (y : Int) (by omega) (by omega)
  rw [show (127 : Int) = 2 ^ 7 - 1 by decide, this]
  omega

set_option maxRecDepth 100000 in
set_option maxHeartbeats 1000000 in
theorem groups_seq (B z : Nat) (hz : z < 2097152) (w : World) (hB : Row w B 97 [.int .u64 (z : Nat)]) (p q : Nat → Prop) (hp : p B) (hq : q B) :
    Seq Tryd.prog 73 #[.pointer (some ⟨B, 0, none⟩)] (fun x : Nat × Bool => #[.int .u8 (x.1 : Nat), .bool x.2]) p q ((List.range (ngr z + 1)).map fun j => (z / 128 ^ j % 128, decide (z / 128 ^ j < 128))) w := by
  intro l J Jx W hE hJ hJx hY h0
  refine callsIn_of_wp Tryd.func73 rfl trivial ?_ rfl
  have d1 := hB.ext hE
  have hlen : ((List.range (ngr z + 1)).map fun j => (z / 128 ^ j % 128, decide (z / 128 ^ j < 128))).length = ngr z + 1 := by simp
  have HLEN := Lib.hid hlen
  clear hlen
  have hxs : ∀ j, j ≤ ngr z → ((List.range (ngr z + 1)).map fun j => (z / 128 ^ j % 128, decide (z / 128 ^ j < 128)))[j]? = some (z / 128 ^ j % 128, decide (z / 128 ^ j < 128)) := by
    intro j hj; simp [show j < ngr z + 1 by omega]
  generalize ((List.range (ngr z + 1)).map fun j => (z / 128 ^ j % 128, decide (z / 128 ^ j < 128))) = xs at *
  simp only [Tryd.ntmps73, List.size_toArray, List.length_cons, List.length_nil, Nat.reduceAdd, Nat.reduceSub, Array.replicate_succ, Array.replicate_zero, List.push_toArray, List.append_toArray, List.nil_append, List.cons_append]
  gi_wp2
  gi_loopw [3] (fun _ wr => ∃ k : Nat, k ≤ ngr z ∧ J k wr ∧ Row wr B 97 [.int .u64 ((z / 128 ^ k : Nat) : Int)]) (fun _ wr => intOf ((wr.cell? ⟨B, 0, none⟩).getD undef) |>.toNat)
  case atStart => exact ⟨0, Nat.zero_le _, h0, by simpa using d1⟩
  case round =>
    clear h0 d1
    obtain ⟨k, hk, hJk, d1⟩ := hrel
    obtain ⟨fn, tmps, assign, body, hy, hR⟩ := hY k _ wr (hxs k hk) hJk
    dsimp only at hy
    have hc := d1.cell 0 Nat.zero_lt_one
    have hf := d1.frozen 0
    have hcl : wr.cell? ⟨B, 0, none⟩ = some (.int .u64 ((z / 128 ^ k : Nat) : Int)) := hc
    generalize hzk : z / 128 ^ k = y at *
    have hy2 : y < 2097152 := by rw [← hzk]; exact Nat.lt_of_le_of_lt (Nat.div_le_self _ _) hz
    rw [← mask_seven y hy2, show decide (y < 128) = decide ((y : Int) < 128) from decide_eq_decide.2 (by omega)] at hy
    gi_wp2
    refine ⟨rfl, hR.mono ?_⟩
    rintro e W3 (⟨rfl, hJ3, hk3⟩ | ⟨rfl, hJx3⟩)
    · have d3 := hk3.row d1 hp
      have hc3 : W3.cell? ⟨B, 0, none⟩ = some (.int .u64 (y : Nat)) := d3.cell 0 Nat.zero_lt_one
      have hf3 := d3.frozen 0
      by_cases hlt : y < 128
      · have hlt' : (y : Int) < 128 := by omega
        gi_wp2
        refine bodyPost_ret (results_none rfl _ _ _) rfl ?_
        have hkn : k = ngr z := by
          rcases Nat.lt_or_ge k (ngr z) with h | h
          · have := ngr_more h; omega
          · omega
        exact ⟨⟨_, rfl⟩, .inl (by rw [HLEN.out, ← hkn]; exact hJ3)⟩
      · have hkn : k < ngr z := by
          rcases Nat.lt_or_ge k (ngr z) with h | h
          · exact h
          · have h1 : k = ngr z := by omega
            have := ngr_last hz; rw [← h1] at this; omega
        gi_wp2
        have d4 : Row (W3.setCell ⟨B, 0, none⟩ (.int .u64 ((y : Int) / 128))) B 97 [.int .u64 ((z / 128 ^ (k + 1) : Nat) : Int)] := by
          have := d3.set 0 (.int .u64 ((y : Int) / 128))
          rwa [show ((y : Int) / 128) = ((z / 128 ^ (k + 1) : Nat) : Int) from by rw [← div_step, hzk]; omega] at this ⊢
        have hc4 := d4.cell 0 Nat.zero_lt_one
        refine ⟨⟨k + 1, hkn, hJ _ _ _ (some B) hJ3 (grownBy_setCell' _ _ _) (fun j e => by cases e; exact hq), d4⟩, ?_⟩
        rw [hc4, hcl]
        show (((z / 128 ^ (k + 1) : Nat) : Int)).toNat < ((y : Nat) : Int).toNat
        rw [← div_step, hzk]
        omega
    · gi_wp2
      refine bodyPost_ret (results_none rfl _ _ _) rfl ?_
      exact ⟨⟨_, rfl⟩, .inr ⟨k + 1, by rw [HLEN.out]; omega, hJx3⟩⟩

set_option maxHeartbeats 1000000 in
theorem groups_any (z : Nat) (w : World) :
    Calls Tryd.prog 69 #[.int .u64 (z : Nat)] w fun e w' => e = .returned (.func (.func 73) #[] #[.pointer (some ⟨w.heap.size, 0, none⟩)]) ∧ w' = w.alloc (.cells #[.int .u64 (z : Nat)] 97) := by
  go_enter Tryd.func69, Tryd.ntmps69
  go_wp2
  go_ret
  exact ⟨rfl, rfl⟩
end Go.Proofs.YtjamakapkpkfeaaDoor
