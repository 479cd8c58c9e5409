/- The reference's inputs: choices, keys, bodies: contracts. -/
import Derived.Test.YtjamakapkpkfeaaDoorGen
namespace Go.Proofs.YtjamakapkpkfeaaDoor
open Go.RowKit Go.Shelf Sha

namespace Sha
/-- An arbitrary number as one of 0 to n - 1. -/
def pickN (c : Int) (n : Nat) : Nat := if c < 0 then (-(c + 1)).toNat % n else c.toNat % n
def keyAt (k : Nat) : ByteArray := sha (str [101, k])
def bodyOf (n : Int) : ByteArray := (str [97 + pickN n 26, 97 + pickN (n.tdiv 26) 26]).extract 0 (pickN (n.tdiv 7) 3)
end Sha
/-- A number of 64 bits. -/
def I64 (c : Int) : Prop := -9223372036854775808 ≤ c ∧ c ≤ 9223372036854775807
theorem pickN_lt (c : Int) {n : Nat} (h : 0 < n) : pickN c n < n := by unfold pickN; split <;> exact Nat.mod_lt _ h

theorem tmod_nat (c : Int) (h : 0 ≤ c) (n : Nat) : c.tmod (n : Int) = ((c.toNat % n : Nat) : Int) := by
  obtain ⟨m, rfl⟩ : ∃ m : Nat, c = m := ⟨c.toNat, by omega⟩
  rw [Int.toNat_natCast, Int.ofNat_tmod]

set_option maxHeartbeats 1000000 in
theorem pick_any (c : Int) (n : Nat) (h0 : 0 < n) (hn : n ≤ 1000000) (hc : I64 c) (w : World) : Calls Tryd.prog 45 #[.int .i64 c, .int .i64 (n : Nat)] w fun e w' => e = .returned (.int .i64 (pickN c n : Nat)) ∧ w' = w := by
  obtain ⟨hc0, hc1⟩ := hc
  go_enter Tryd.func45, Tryd.ntmps45
  go_wp2
  · rename_i h
    go_ret
    refine ⟨?_, rfl⟩
    show Ending.returned (Value.int IntKind.i64 (-(c + 1).tmod (n : Int))) = _
    rw [← Int.neg_tmod, tmod_nat _ (by omega)]
    unfold pickN
    rw [if_pos h]
  · rename_i h
    go_ret
    refine ⟨?_, rfl⟩
    show Ending.returned (Value.int IntKind.i64 (c % (n : Int))) = _
    rw [← Int.tmod_eq_emod_of_nonneg h, tmod_nat _ h]
    unfold pickN
    rw [if_neg (by omega)]
set_option maxHeartbeats 1000000 in
theorem pickL_any (c : Int) (n : Nat) (h0 : 0 < n) (hn : n ≤ 1000000) (hc : I64 c) (w : World) : Calls Tryd.prog 18 #[.int .i64 c, .int .i64 (n : Nat)] w fun e w' => e = .returned (.int .i64 (pickN c n : Nat)) ∧ w' = w := by
  obtain ⟨hc0, hc1⟩ := hc
  go_enter Tryd.func18, Tryd.ntmps18
  go_wp2
  · rename_i h
    go_ret
    refine ⟨?_, rfl⟩
    show Ending.returned (Value.int IntKind.i64 (-(c + 1).tmod (n : Int))) = _
    rw [← Int.neg_tmod, tmod_nat _ (by omega)]
    unfold pickN
    rw [if_pos h]
  · rename_i h
    go_ret
    refine ⟨?_, rfl⟩
    show Ending.returned (Value.int IntKind.i64 (c % (n : Int))) = _
    rw [← Int.tmod_eq_emod_of_nonneg h, tmod_nat _ h]
    unfold pickN
    rw [if_neg (by omega)]

theorem i64_tdiv (n : Int) (d : Nat) (h : I64 n) (_ : 1 < d) : I64 (n.tdiv (d : Int)) := by
  obtain ⟨h0, h1⟩ := h
  rcases Int.le_total 0 n with h | h
  · obtain ⟨m, rfl⟩ : ∃ m : Nat, n = m := ⟨n.toNat, by omega⟩
    rw [← Int.ofNat_tdiv]
    have := Nat.div_le_self m d
    generalize m / d = q at *
    exact ⟨by omega, by omega⟩
  · obtain ⟨m, rfl⟩ : ∃ m : Nat, n = -(m : Int) := ⟨(-n).toNat, by omega⟩
    rw [Int.neg_tdiv, ← Int.ofNat_tdiv]
    have := Nat.div_le_self m d
    generalize m / d = q at *
    exact ⟨by omega, by omega⟩
theorem run_bytes_str {P : Program} {w : World} {src dst e : TypeId} {b o : Nat} {ns : List Nat} {n : Nat} (hc : Cells w b o .u8 ns) (hg : Good ns 256) (hn : ns.length = n) (hs : P.underlying src = some (.slice e)) (he : P.underlying e = some (.int .u8)) (hd : P.underlying dst = some .string) (cap : Nat) :
    (convert src dst (.slice (some ⟨b, o, none⟩) n cap)).run P w = .ok (.string (str ns)) w := by
  subst hn
  have hr := run_convert_bytes_back (P := P) w src dst e ⟨b, o, none⟩ cap (ns.map UInt8.ofNat) hs he hd (fun j hj => by
    rw [List.length_map] at hj
    rw [Addr.add_mid, hc j hj]
    have h1 := hg j hj
    unfold at_ at h1 ⊢
    rw [List.getD_eq_getElem?_getD, List.getElem?_eq_getElem hj] at h1 ⊢
    have h1 : ns[j] < 256 := h1
    rw [List.getElem_map, UInt8.toNat_ofNat', Nat.mod_eq_of_lt (show ns[j] < 2 ^ 8 from h1)]
    rfl)
  rwa [List.length_map] at hr
theorem str_good {ns : List Nat} {W : World} {b : Nat} {t : TypeId} (h : Row W b t (vals .u8 ns)) : Cells W b 0 .u8 ns := cells_of_row h

set_option maxRecDepth 100000 in
set_option maxHeartbeats 1000000 in
theorem key_any (c : Int) (hc : I64 c) (w : World) : Calls Tryd.prog 17 #[.int .i64 c] w fun e w' => e = .returned (.string (keyAt (pickN c 2))) ∧ Ext w w' := by
  have hlt := pickN_lt c (n := 2) (by decide)
  go_enter Tryd.func17, Tryd.ntmps17
  have HP := Lib.hid (pick_any c 2 (by decide) (by decide) hc w)
  generalize pickN c 2 = k at *
  have hr := Row.new w 5 (vals .u8 [101, k])
  have hE := (Ext.refl w).alloc (.cells (vals .u8 [101, k]).toArray 5)
  have hg : Good [101, k] 256 := by rw [good_iff]; intro x hx; simp only [List.mem_cons, List.not_mem_nil, or_false] at hx; omega
  have hs : (str [101, k]).size ≤ 1099511627776 := by rw [str_size]; show 2 ≤ _; decide
  have HG := Lib.hid hg
  have HS := Lib.hid hs
  clear hg hs
  go_wp2_with (first
    | (go_at_call 45; refine (HP.out).mono ?_; rintro e w1 ⟨rfl, hw⟩; subst w1)
    | (refine wpList_bytes_str rfl _ _ _ rfl 5 Tryd.underlying70 Tryd.underlying5 Tryd.underlying9 [101, k] rfl rfl (cells_of_row hr) HG.out ?_)
    | (go_at_call 44; refine (sum2_any _ HS.out _).mono ?_; rintro e w2 ⟨rfl, hE2⟩))
  go_ret
  exact ⟨rfl, hE.trans hE2⟩

set_option maxRecDepth 100000 in
set_option maxHeartbeats 1000000 in
theorem body_any (n : Int) (hn : I64 n) (w : World) : Calls Tryd.prog 19 #[.int .i64 n] w fun e w' => e = .returned (.string (bodyOf n)) ∧ Ext w w' := by
  have h1 := pickN_lt n (n := 26) (by decide)
  have h2 := pickN_lt (n.tdiv 26) (n := 26) (by decide)
  have h3 := pickN_lt (n.tdiv 7) (n := 3) (by decide)
  obtain ⟨hn0, hn1⟩ := hn
  have i1 : I64 (n.tdiv 26) := i64_tdiv n 26 ⟨hn0, hn1⟩ (by decide)
  have i2 : I64 (n.tdiv 7) := i64_tdiv n 7 ⟨hn0, hn1⟩ (by decide)
  have HP1 := fun w => Lib.hid (pick_any n 26 (by decide) (by decide) ⟨hn0, hn1⟩ w)
  have HP2 := fun w => Lib.hid (pick_any _ 26 (by decide) (by decide) i1 w)
  have HP3 := fun w => Lib.hid (pick_any _ 3 (by decide) (by decide) i2 w)
  go_enter Tryd.func19, Tryd.ntmps19
  go_wp2
  refine wp_region_plan [] (.step 0 .pure (.step 4 .pure (.step 5 .pure (.step 11 .pure (.step 12 .pure (.step 1 (.eff false) (.step 2 .pure (.step 3 .pure (.step 6 (.eff false) (.step 7 .pure (.step 8 .pure (.br (.step 9 (.eff false) (.step 10 .read (.step 13 (.eff false) (.step 14 .pure (.step 15 .pure (.fin)))))) (.step 13 (.eff false) (.step 9 (.eff false) (.step 10 .read (.step 14 .pure (.step 15 .pure (.fin)))))))))))))))))) (by kernel_rfl) (by kernel_rfl) (Ext.refl w) ?_
  simp only [pickOps, List.getD_cons_zero, List.getD_cons_succ]
  repeat (first
    | (refine plan_pure (by rfl) ?_; intro N hN; go_big_quiet_op; go_big_quiet_on)
    | (refine plan_read (by rfl) ?_; intro N hN; go_big_quiet_op; go_big_quiet_on)
    | (refine plan_skip (by rfl) ?_; simp only [Act.put, List.setIfInBounds_toArray, List.set_cons_zero, List.set_cons_succ]))
  refine plan_eff (by rfl) ?_
  intro N hN
  go_big_op
  refine (HP1 _).out.mono ?_
  rintro e w' ⟨rfl, rfl⟩
  refine hN _ w _ (fun _ => Ext.refl _) (Ext.refl w).drew ?_
  repeat (first
    | (refine plan_pure (by rfl) ?_; intro N hN; go_big_quiet_op; go_big_quiet_on)
    | (refine plan_read (by rfl) ?_; intro N hN; go_big_quiet_op; go_big_quiet_on)
    | (refine plan_skip (by rfl) ?_; simp only [Act.put, List.setIfInBounds_toArray, List.set_cons_zero, List.set_cons_succ]))
  refine plan_eff (by rfl) ?_
  intro N hN
  go_big_op
  refine (HP2 _).out.mono ?_
  rintro e w' ⟨rfl, rfl⟩
  refine hN _ w _ (fun _ => Ext.refl _) (Ext.refl w).drew ?_
  repeat (first
    | (refine plan_pure (by rfl) ?_; intro N hN; go_big_quiet_op; go_big_quiet_on)
    | (refine plan_read (by rfl) ?_; intro N hN; go_big_quiet_op; go_big_quiet_on)
    | (refine plan_skip (by rfl) ?_; simp only [Act.put, List.setIfInBounds_toArray, List.set_cons_zero, List.set_cons_succ]))
  have hstr : ∀ (W1 : World), Row W1 w.heap.size 5 [.int .u8 (97 + (pickN n 26 : Nat)), .int .u8 (97 + (pickN (n.tdiv 26) 26 : Nat))] → ∀ u, (convert 70 9 (.slice (some ⟨w.heap.size, 0, none⟩) 2 2)).run Tryd.prog (wplus W1 u) = .ok (.string (str [97 + pickN n 26, 97 + pickN (n.tdiv 26) 26])) (wplus W1 u) := by
    intro W1 hR1 u
    rw [show (97 : Int) + ((pickN n 26 : Nat) : Int) = ((97 + pickN n 26 : Nat) : Int) by omega, show (97 : Int) + ((pickN (n.tdiv 26) 26 : Nat) : Int) = ((97 + pickN (n.tdiv 26) 26 : Nat) : Int) by omega] at hR1
    have hc := cells_of_row (k := .u8) (l := [97 + pickN n 26, 97 + pickN (n.tdiv 26) 26]) hR1
    exact run_bytes_str (hc.plus u) (by rw [good_iff]; intro x hx; simp only [List.mem_cons, List.not_mem_nil, or_false] at hx; omega) rfl Tryd.underlying70 Tryd.underlying5 Tryd.underlying9 2
  refine plan_br ?_ ?_
  · refine plan_eff (by rfl) ?_
    intro N hN
    go_big_op
    refine plan_alloc2 hN (Ext.refl w).drew ?_
    intro W1 hR1 hE1 hE2
    have hst := hstr W1 hR1
    repeat (first
      | (refine plan_pure (by rfl) ?_; intro N hN; go_big_quiet_op; go_big_quiet_on)
      | (refine plan_read (by rfl) ?_; intro N hN; go_big_quiet_op; go_big_quiet_on)
      | (refine plan_skip (by rfl) ?_; simp only [Act.put, List.setIfInBounds_toArray, List.set_cons_zero, List.set_cons_succ]))
    refine plan_eff (by rfl) ?_
    intro N hN
    go_big_op
    refine (HP3 _).out.mono ?_
    rintro e w' ⟨rfl, hw⟩
    subst w'
    refine hN _ W1 W1 (fun _ => Ext.refl _) (Ext.refl _) ?_
    have hsz : (str [97 + pickN n 26, 97 + pickN (n.tdiv 26) 26]).size = 2 := by rw [str_size]; rfl
    generalize hS : str [97 + pickN n 26, 97 + pickN (n.tdiv 26) 26] = S at *
    repeat (first
      | (refine plan_pure (by rfl) ?_; intro N hN; go_big_quiet_op; go_big_quiet_on)
      | (refine plan_read (by rfl) ?_; intro N hN; go_big_quiet_op; go_big_quiet_on)
      | (refine plan_skip (by rfl) ?_; simp only [Act.put, List.setIfInBounds_toArray, List.set_cons_zero, List.set_cons_succ]))
    refine plan_nil ?_
    go_wp2
    go_ret
    exact ⟨by rw [← hS]; rfl, hE2⟩
  · refine plan_eff (by rfl) ?_
    intro N hN
    go_big_op
    refine (HP3 _).out.mono ?_
    rintro e w' ⟨rfl, rfl⟩
    refine hN _ w _ (fun _ => Ext.refl _) (Ext.refl w).drew ?_
    refine plan_eff (by rfl) ?_
    intro N hN
    go_big_op
    refine plan_alloc2 hN (Ext.refl w).drew ?_
    intro W1 hR1 hE1 hE2
    have hst := hstr W1 hR1
    have hsz : (str [97 + pickN n 26, 97 + pickN (n.tdiv 26) 26]).size = 2 := by rw [str_size]; rfl
    generalize hS : str [97 + pickN n 26, 97 + pickN (n.tdiv 26) 26] = S at *
    repeat (first
      | (refine plan_pure (by rfl) ?_; intro N hN; go_big_quiet_op; go_big_quiet_on)
      | (refine plan_read (by rfl) ?_; intro N hN; go_big_quiet_op; go_big_quiet_on)
      | (refine plan_skip (by rfl) ?_; simp only [Act.put, List.setIfInBounds_toArray, List.set_cons_zero, List.set_cons_succ]))
    refine plan_nil ?_
    go_wp2
    go_ret
    exact ⟨by rw [← hS]; rfl, hE2⟩
end Go.Proofs.YtjamakapkpkfeaaDoor
