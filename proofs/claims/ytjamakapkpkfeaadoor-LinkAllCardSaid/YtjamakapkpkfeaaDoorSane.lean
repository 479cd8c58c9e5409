/- The chapter's example: contract of sane. -/
import Derived.Test.YtjamakapkpkfeaaDoorTwo
import Derived.Test.YtjamakapkpkfeaaDoorHash
import Derived.Test.YtjamakapkpkfeaaDoorSaneP
namespace Go.Proofs.YtjamakapkpkfeaaDoor
open Go.RowKit Go.Shelf Sha

set_option maxRecDepth 100000 in
set_option maxHeartbeats 1000000 in
theorem open_no (a b : ByteArray) (ha : a.size ≠ 32) (w : World) : Calls Tryd.prog 40 #[.string a, .string b] w fun e w' => e = .returned (.tuple #[.pointer none, .int .i64 410]) ∧ w' = w := by
  have hd : Hid (decide (a.size = 32) = false) := Lib.hid (decide_eq_false ha)
  clear ha
  go_enter Tryd.func40, Tryd.ntmps40
  go_wp2_with (go_at_call 50; refine (isKey_any _ _).mono ?_; rintro e w1 ⟨rfl, hw⟩; subst w1; rw [hd.out])
  go_ret2
  exact ⟨rfl, rfl⟩

set_option maxRecDepth 100000 in
set_option maxHeartbeats 4000000 in
theorem sane_any (w : World) (ht : Tab w) : Calls Tryd.prog 14 #[] w fun e w' => e = .returned (.bool true) ∧ Ext w w' := by
  go_enter Tryd.func14, Tryd.ntmps14
  go_wp2_with (go_at_call 13; refine (pair_any _).mono ?_; rintro e w1 ⟨E, fp, rfl, hE1, hT⟩)
  have hA0 : EndAt w1 (fp 0) (E 0) (open0 0) := hT.here 0 (by omega)
  have hB0 : EndAt w1 (fp 1) (E 1) (open0 1) := hT.here 1 (by omega)
  have HT := Lib.hid hT
  clear hT
  have k0 : sendOk (open0 0) ⟨#[120]⟩ := ⟨by decide, by decide⟩
  have k1 : sendOk ((open0 0).send ⟨#[120]⟩) ⟨#[121]⟩ := ⟨by decide, by decide⟩
  have k2 : sendOk (((open0 0).send ⟨#[120]⟩).send ⟨#[121]⟩) ⟨#[122]⟩ := ⟨by decide, by decide⟩
  go_wp2_with (go_at_call 20; with_reducible refine (send_any hA0 _ k0).mono ?_; rintro e w2 ⟨rfl, hm2, fp2, hA2, hf2⟩)
  go_wp2_with (go_at_call 20; with_reducible refine (send_any hA2 _ k1).mono ?_; rintro e w3 ⟨rfl, hm3, fp3, hA3, hf3⟩)
  go_wp2_with (go_at_call 20; with_reducible refine (send_any hA3 _ k2).mono ?_; rintro e w4 ⟨rfl, hm4, fp4, hA4, hf4⟩)
  -- both ends, after the three messages
  obtain ⟨hA, hB, hE4, hd, hlA, hlB⟩ : EndAt w4 fp4 (E 0) sA ∧ EndAt w4 (fp 1) (E 1) (open0 1) ∧ Ext w w4 ∧ (∀ k, fp 1 k → ¬ fp4 k) ∧ (∀ k, fp4 k → w.heap.size ≤ k) ∧ (∀ k, fp 1 k → w.heap.size ≤ k) := by
    have b0 := HT.out.size
    have l0 := fun k => HT.out.low 0 k (by omega)
    have l1 := fun k => HT.out.low 1 k (by omega)
    have s2 := hm2.size
    have s3 := hm3.size
    have lA2 : ∀ k, fp2 k → w.heap.size ≤ k := fun k hk => (hf2 k hk).elim (l0 k) (fun h => by omega)
    have lA3 : ∀ k, fp3 k → w.heap.size ≤ k := fun k hk => (hf3 k hk).elim (lA2 k) (fun h => by omega)
    have lA4 : ∀ k, fp4 k → w.heap.size ≤ k := fun k hk => (hf4 k hk).elim (lA3 k) (fun h => by omega)
    have lt1 := hB0.lows
    have d1 : ∀ k, fp 1 k → ¬ fp 0 k := fun k h1 h0 => HT.out.dis k h0 h1
    have d2 : ∀ k, fp 1 k → ¬ fp2 k := fun k h1 h => (hf2 k h).elim (d1 k h1) (fun h => by have := lt1 k h1; omega)
    have d3 : ∀ k, fp 1 k → ¬ fp3 k := fun k h1 h => (hf3 k h).elim (d2 k h1) (fun h => by have := lt1 k h1; omega)
    have d4 : ∀ k, fp 1 k → ¬ fp4 k := fun k h1 h => (hf4 k h).elim (d3 k h1) (fun h => by have := lt1 k h1; omega)
    refine ⟨by unfold sA; exact hA4, ((hB0.mod hm2 d1).mod hm3 d2).mod hm4 d3, ((hE1.mod hm2 l0).mod hm3 lA2).mod hm4 lA3, d4, lA4, l1⟩
  have hTab4 := ht.ext hE4
  clear hA0 hB0 HT hm2 hm3 hm4 hA2 hA3 hA4 hf2 hf3 hf4 k0 k1 k2 hE1
  go_wp2_with (go_at_call 22; with_reducible refine (out_any hA hTab4).mono ?_; rintro e w5 ⟨v, rfl, ho, hE5⟩)
  rw [sA_out, show sOut.length = 3 from rfl] at ho
  obtain ⟨g, c, hv, _⟩ := (toOwn ho).form (by decide)
  cases hv
  have hS5 := Lib.hid (toOwn ho).sl
  clear ho
  have hA5 := hA.ext hE5
  have hB5 := hB.ext hE5
  have hl3 : ∀ W, (Builtin.len_ #[37] 3 #[.slice (some ⟨g, 0, none⟩) 3 c]).run Tryd.prog W = .ok (.int .i64 3) W := fun W => run_len_slice W _ _ _ _ _ Tryd.underlying37
  have hs5 := sent_any hA5
  rw [sA_len] at hs5
  simp only [hl3, Result.andThen]
  go_wp2_with (go_at_call 31; refine hs5.mono ?_; rintro e w6 ⟨rfl, hE6⟩)
  have hA6 := hA5.ext hE6
  have hB6 := hB5.ext hE6
  have hs6 := waiting_any hA6
  rw [sA_len, sA_acked] at hs6
  have hS6 := Lib.hid (hS5.out.ext hE6)
  have hTab6 := (hTab4.ext hE5).ext hE6
  have hEw6 := (hE4.trans hE5).trans hE6
  clear hs5 hA5 hB5 hS5 hE5 hE6 hE4 hTab4
  go_wp2_with (go_at_call 33; refine hs6.mono ?_; rintro e w7 ⟨rfl, hE7⟩)
  have hA7 := hA6.ext hE7
  have hB7 := hB6.ext hE7
  have hS7 := Lib.hid (hS6.out.ext hE7)
  have hTab7 := hTab6.ext hE7
  have hEw7 := hEw6.trans hE7
  clear hs6 hA6 hB6 hS6 hE7 hTab6 hEw6
  go_loopw [5] (fun i wr => ∃ k : Nat, k ≤ 3 ∧ i = .int .i64 k ∧ Ext w7 wr) (fun i _ => 3 - (intOf i).toNat)
  case atStart => exact ⟨0, Nat.zero_le _, rfl, Ext.refl _⟩
  case round =>
    obtain ⟨k, hk, rfl, hX⟩ := hrel
    by_cases hlt : k < 3
    · obtain ⟨b, hb, hpk, hG0, hG1, hbs⟩ : ∃ b : ByteArray, [Value.string ⟨#[120]⟩, .string ⟨#[121]⟩, .string ⟨#[122]⟩].getD k undef = .string b ∧ sOut[k]'hlt = sP k b ∧ Hid (decide (Genuine (keyAt 0) (sP k b)) = true) ∧ Hid (decide (Genuine (keyAt 1) (sP k b)) = false) ∧ b.size ≤ 200 := by
        have hn := sP_other
        rcases (show k = 0 ∨ k = 1 ∨ k = 2 by omega) with rfl | rfl | rfl
        · exact ⟨_, rfl, rfl, Lib.hid (decide_eq_true (sP_genuine 0 (by decide) _ (by decide))), Lib.hid (decide_eq_false hn.1), by decide⟩
        · exact ⟨_, rfl, rfl, Lib.hid (decide_eq_true (sP_genuine 1 (by decide) _ (by decide))), Lib.hid (decide_eq_false hn.2.1), by decide⟩
        · exact ⟨_, rfl, rfl, Lib.hid (decide_eq_true (sP_genuine 2 (by decide) _ (by decide))), Lib.hid (decide_eq_false hn.2.2), by decide⟩
      have hr0 := Row.new wr 9 [Value.string ⟨#[120]⟩, .string ⟨#[121]⟩, .string ⟨#[122]⟩]
      have hc0 := hr0.cell k (by show k < 3; exact hlt)
      rw [hb] at hc0
      clear hr0
      have HS : Hid (∀ W, Calls Tryd.prog 41 #[.string (keyAt 0), .agg #[.int .i64 ((k : Int) + 1), .int .i64 0, .string b, .string ⟨#[]⟩]] W fun e w' => e = .returned (.string (sealOf (keyAt 0) ⟨(k : Int) + 1, 0, b, ⟨#[]⟩⟩)) ∧ Ext W w') :=
        Lib.hid (fun W => seal2_any (keyAt 0) (by rw [keyAt_size]; decide) ⟨(k : Int) + 1, 0, b, ⟨#[]⟩⟩ (by dsimp only; omega) (by dsimp only; omega) (by dsimp only; omega) (by dsimp only; omega) (by dsimp only; omega) W)
      have HG0 : Hid (∀ W, Tab W → Calls Tryd.prog 29 #[.string (keyAt 0), .agg #[.int .i64 ((k : Int) + 1), .int .i64 0, .string b, .string (sealOf (keyAt 0) ⟨(k : Int) + 1, 0, b, ⟨#[]⟩⟩)]] W fun e w' => e = .returned (.bool true) ∧ Ext W w') :=
        Lib.hid (fun W hW => by have := genuine_any (keyAt 0) (sP k b) W hW; rw [hG0.out] at this; exact this)
      have HG1 : Hid (∀ W, Tab W → Calls Tryd.prog 29 #[.string (keyAt 1), .agg #[.int .i64 ((k : Int) + 1), .int .i64 0, .string b, .string (sealOf (keyAt 0) ⟨(k : Int) + 1, 0, b, ⟨#[]⟩⟩)]] W fun e w' => e = .returned (.bool false) ∧ Ext W w') :=
        Lib.hid (fun W hW => by have := genuine_any (keyAt 1) (sP k b) W hW; rw [hG1.out] at this; exact this)
      have hcell := fun j hj => (hS7.out.ext hX).pkt (l := sOut) (by decide) k hlt j hj
      rw [hpk] at hcell
      unfold sP Pkt.cells at hcell
      clear hG0 hG1 hpk
      generalize sealOf (keyAt 0) ⟨(k : Int) + 1, 0, b, ⟨#[]⟩⟩ = z at *
      obtain ⟨s1, a1, b1, z1, Hs, HG0, HG1, ho0, ho1, ho2, ho3⟩ : ∃ (s1 a1 : Int) (b1 z1 : ByteArray), Hid (s1 = (k : Int) + 1 ∧ a1 = 0 ∧ b1 = b ∧ z1 = z) ∧
          Hid (∀ W, Tab W → Calls Tryd.prog 29 #[.string (keyAt 0), .agg #[.int .i64 s1, .int .i64 a1, .string b1, .string z1]] W fun e w' => e = .returned (.bool true) ∧ Ext W w') ∧
          Hid (∀ W, Tab W → Calls Tryd.prog 29 #[.string (keyAt 1), .agg #[.int .i64 s1, .int .i64 a1, .string b1, .string z1]] W fun e w' => e = .returned (.bool false) ∧ Ext W w') ∧
          wr.cell? ⟨g, k * 4, none⟩ = some (.int .i64 s1) ∧ wr.cell? ⟨g, k * 4 + 1, none⟩ = some (.int .i64 a1) ∧ wr.cell? ⟨g, k * 4 + 2, none⟩ = some (.string b1) ∧ wr.cell? ⟨g, k * 4 + 3, none⟩ = some (.string z1) :=
        ⟨_, _, _, _, Lib.hid ⟨rfl, rfl, rfl, rfl⟩, HG0, HG1, hcell 0 (by decide), hcell 1 (by decide), hcell 2 (by decide), hcell 3 (by decide)⟩
      clear hcell
      go_wp2
      have hrq := Row.new (wr.alloc (.cells #[.string ⟨#[120]⟩, .string ⟨#[121]⟩, .string ⟨#[122]⟩] 9)) 24 [.int .i64 ((k : Int) + 1), .int .i64 0, .string b, .string ⟨#[]⟩]
      rw [World.size_alloc] at hrq
      have hEq := ((Ext.refl wr).alloc (.cells #[.string ⟨#[120]⟩, .string ⟨#[121]⟩, .string ⟨#[122]⟩] 9)).alloc (.cells #[.int .i64 ((k : Int) + 1), .int .i64 0, .string b, .string ⟨#[]⟩] 24)
      simp only [List.toArray] at hrq
      generalize hwq : (wr.alloc (.cells #[.string ⟨#[120]⟩, .string ⟨#[121]⟩, .string ⟨#[122]⟩] 9)).alloc (.cells #[.int .i64 ((k : Int) + 1), .int .i64 0, .string b, .string ⟨#[]⟩] 24) = wq at *
      clear hwq hc0
      have q0 : ∀ u, (wplus wq u).cell? ⟨wr.heap.size + 1, 0, none⟩ = some (.int .i64 ((k : Int) + 1)) := fun u => (hrq.plus u).cell 0 (by show 0 < 4; decide)
      have q1 : ∀ u, (wplus wq u).cell? ⟨wr.heap.size + 1, 1, none⟩ = some (.int .i64 0) := fun u => (hrq.plus u).cell 1 (by show 1 < 4; decide)
      have q2 : ∀ u, (wplus wq u).cell? ⟨wr.heap.size + 1, 2, none⟩ = some (.string b) := fun u => (hrq.plus u).cell 2 (by show 2 < 4; decide)
      have q3 : ∀ u, (wplus wq u).cell? ⟨wr.heap.size + 1, 3, none⟩ = some (.string ⟨#[]⟩) := fun u => (hrq.plus u).cell 3 (by show 3 < 4; decide)
      refine wp_region_plan [4] (.step 1 .read (.step 0 (.eff false) (.step 2 (.eff false) (.step 3 .pure (.step 4 (.eff true) (.fin)))))) (by kernel_rfl) (by kernel_rfl) (Ext.refl wq) ?_
      simp only [pickOps, List.getD_cons_zero, List.getD_cons_succ]
      repeat (first
        | (refine pure_n rfl ?_; intro N hN; go_big_quiet_op; go_big_quiet_on)
        | (refine read_n rfl ?_; intro N hN; go_big_quiet_op; go_big_quiet_on)
        | (refine pure_g rfl rfl rfl rfl ?_; intro N hN; go_big_quiet_op; go_big_quiet_on)
        | (refine read_g rfl rfl rfl rfl ?_; intro N hN; go_big_quiet_op; go_big_quiet_on)
        | (refine skip_g rfl rfl rfl rfl ?_; simp only [Act.put, List.setIfInBounds_toArray, List.set_cons_zero, List.set_cons_succ]))
      refine eff_n rfl ?_
      intro N hN
      go_big_op
      refine (key0_any _).mono ?_
      rintro e w8 ⟨rfl, hE8⟩
      refine hN _ wq w8 (fun _ => Ext.refl _) ((Ext.refl wq).drew.trans hE8) ?_
      repeat (first
        | (refine pure_n rfl ?_; intro N hN; go_big_quiet_op; go_big_quiet_on)
        | (refine read_n rfl ?_; intro N hN; go_big_quiet_op; go_big_quiet_on)
        | (refine pure_g rfl rfl rfl rfl ?_; intro N hN; go_big_quiet_op; go_big_quiet_on)
        | (refine read_g rfl rfl rfl rfl ?_; intro N hN; go_big_quiet_op; go_big_quiet_on)
        | (refine skip_g rfl rfl rfl rfl ?_; simp only [Act.put, List.setIfInBounds_toArray, List.set_cons_zero, List.set_cons_succ]))
      refine eff_n rfl ?_
      intro N hN
      go_big_op
      refine (HS.out _).mono ?_
      rintro e w9 ⟨rfl, hE9⟩
      have hEq9 : Ext wq w9 := ((Ext.refl wq).drew.trans hE8).trans hE9
      refine hN _ wq w9 (fun _ => Ext.refl _) hEq9 ?_
      repeat (first
        | (refine pure_n rfl ?_; intro N hN; go_big_quiet_op; go_big_quiet_on)
        | (refine read_n rfl ?_; intro N hN; go_big_quiet_op; go_big_quiet_on)
        | (refine pure_g rfl rfl rfl rfl ?_; intro N hN; go_big_quiet_op; go_big_quiet_on)
        | (refine read_g rfl rfl rfl rfl ?_; intro N hN; go_big_quiet_op; go_big_quiet_on)
        | (refine skip_g rfl rfl rfl rfl ?_; simp only [Act.put, List.setIfInBounds_toArray, List.set_cons_zero, List.set_cons_succ]))
      have c9 : w9.cell? ⟨wr.heap.size + 1, 3, none⟩ = some (.string ⟨#[]⟩) := (hrq.ext hEq9).cell 3 (by show 3 < 4; decide)
      have z9 : w9.frozen? ⟨wr.heap.size + 1, 3, none⟩ = false := (hrq.ext hEq9).frozen 3
      refine eff_n rfl ?_
      intro N hN
      go_big_op
      refine hN _ _ _ (fun h => by cases h) (Ext.refl _) ?_
      refine plan_nil ?_
      have hrs := (hrq.ext hEq9).set 3 (.string z)
      have hEs : Ext wr (w9.setCell ⟨wr.heap.size + 1, 3, none⟩ (.string z)) := (hEq.trans hEq9).setCell (by show wr.heap.size ≤ wr.heap.size + 1; omega) _
      generalize w9.setCell ⟨wr.heap.size + 1, 3, none⟩ (.string z) = ws at *
      clear c9 z9 q0 q1 q2 q3 hrq hEq hEq9 hE8 hE9
      have q0 : ∀ u, (wplus ws u).cell? ⟨wr.heap.size + 1, 0, none⟩ = some (.int .i64 ((k : Int) + 1)) := fun u => (hrs.plus u).cell 0 (by show 0 < 4; decide)
      have q1 : ∀ u, (wplus ws u).cell? ⟨wr.heap.size + 1, 1, none⟩ = some (.int .i64 0) := fun u => (hrs.plus u).cell 1 (by show 1 < 4; decide)
      have q2 : ∀ u, (wplus ws u).cell? ⟨wr.heap.size + 1, 2, none⟩ = some (.string b) := fun u => (hrs.plus u).cell 2 (by show 2 < 4; decide)
      have q3 : ∀ u, (wplus ws u).cell? ⟨wr.heap.size + 1, 3, none⟩ = some (.string z) := fun u => (hrs.plus u).cell 3 (by show 3 < 4; decide)
      have o0 : ∀ u, (wplus ws u).cell? ⟨g, k * 4, none⟩ = some (.int .i64 s1) := fun u => (ext_wplus ws u).cell (hEs.cell ho0)
      have o1 : ∀ u, (wplus ws u).cell? ⟨g, k * 4 + 1, none⟩ = some (.int .i64 a1) := fun u => (ext_wplus ws u).cell (hEs.cell ho1)
      have o2 : ∀ u, (wplus ws u).cell? ⟨g, k * 4 + 2, none⟩ = some (.string b1) := fun u => (ext_wplus ws u).cell (hEs.cell ho2)
      have o3 : ∀ u, (wplus ws u).cell? ⟨g, k * 4 + 3, none⟩ = some (.string z1) := fun u => (ext_wplus ws u).cell (hEs.cell ho3)
      have HtX := Lib.hid ((hTab7.ext hX).ext hEs)
      go_wp2
      refine wp_region_plan [] (.step 0 .pure (.step 1 .pure (.step 2 .pure (.step 3 .read (.step 4 .read (.step 5 .pure (.step 6 .pure (.step 8 .pure (.step 9 .pure (.step 10 .pure (.step 11 .read (.step 7 (.eff false) (.step 12 (.eff false) (.step 13 .pure (.step 14 .pure (.step 15 .pure (.step 17 .pure (.step 18 .pure (.step 19 .pure (.step 20 .read (.step 16 (.eff false) (.step 21 (.eff false) (.step 22 .pure (.fin)))))))))))))))))))))))) (by kernel_rfl) (by kernel_rfl) (Ext.refl ws) ?_
      simp only [pickOps, List.getD_cons_zero, List.getD_cons_succ]
      refine pure_n rfl ?_; intro N hN; go_big_quiet_op; go_big_quiet_on
      refine pure_n rfl ?_; intro N hN; go_big_quiet_op; go_big_quiet_on
      refine pure_n rfl ?_; intro N hN; go_big_quiet_op; go_big_quiet_on
      refine read_n rfl ?_; intro N hN; go_big_quiet_op; go_big_quiet_on
      refine read_n rfl ?_; intro N hN; go_big_quiet_op; go_big_quiet_on
      refine pure_n rfl ?_
      intro N hN
      go_big_quiet_op
      refine ⟨.bool false, fun w => ?_, hN _ ?_⟩
      · obtain ⟨e1, e2, e3, e4⟩ := Hs.out
        rw [if_pos e1, if_pos e2, if_pos (congrArg ByteArray.toList e3), if_pos (congrArg ByteArray.toList e4)]
        exact ⟨rfl, rfl⟩
      repeat (first
        | (refine pure_n rfl ?_; intro N hN; go_big_quiet_op; go_big_quiet_on)
        | (refine read_n rfl ?_; intro N hN; go_big_quiet_op; go_big_quiet_on)
        | (refine pure_g rfl rfl rfl rfl ?_; intro N hN; go_big_quiet_op; go_big_quiet_on)
        | (refine read_g rfl rfl rfl rfl ?_; intro N hN; go_big_quiet_op; go_big_quiet_on)
        | (refine skip_g rfl rfl rfl rfl ?_; simp only [Act.put, List.setIfInBounds_toArray, List.set_cons_zero, List.set_cons_succ]))
      refine eff_g rfl rfl rfl rfl ?_
      intro N hN
      go_big_op
      refine (key0_any _).mono ?_
      rintro e wa ⟨rfl, hEa⟩
      have hF1 := (Ext.refl ws).drew.trans hEa
      refine hN _ ws wa (fun _ => Ext.refl _) hF1 ?_
      repeat (first
        | (refine pure_n rfl ?_; intro N hN; go_big_quiet_op; go_big_quiet_on)
        | (refine read_n rfl ?_; intro N hN; go_big_quiet_op; go_big_quiet_on)
        | (refine pure_g rfl rfl rfl rfl ?_; intro N hN; go_big_quiet_op; go_big_quiet_on)
        | (refine read_g rfl rfl rfl rfl ?_; intro N hN; go_big_quiet_op; go_big_quiet_on)
        | (refine skip_g rfl rfl rfl rfl ?_; simp only [Act.put, List.setIfInBounds_toArray, List.set_cons_zero, List.set_cons_succ]))
      refine eff_g rfl rfl rfl rfl ?_
      intro N hN
      go_big_op
      refine (HG0.out _ (HtX.out.ext hF1)).mono ?_
      rintro e wb ⟨rfl, hEb⟩
      have hF2 := hF1.trans hEb
      refine hN _ ws wb (fun _ => Ext.refl _) hF2 ?_
      repeat (first
        | (refine pure_n rfl ?_; intro N hN; go_big_quiet_op; go_big_quiet_on)
        | (refine read_n rfl ?_; intro N hN; go_big_quiet_op; go_big_quiet_on)
        | (refine pure_g rfl rfl rfl rfl ?_; intro N hN; go_big_quiet_op; go_big_quiet_on)
        | (refine read_g rfl rfl rfl rfl ?_; intro N hN; go_big_quiet_op; go_big_quiet_on)
        | (refine skip_g rfl rfl rfl rfl ?_; simp only [Act.put, List.setIfInBounds_toArray, List.set_cons_zero, List.set_cons_succ]))
      refine eff_g rfl rfl rfl rfl ?_
      intro N hN
      go_big_op
      refine (key1_any _).mono ?_
      rintro e wc ⟨rfl, hEc⟩
      have hF3 := hF2.trans hEc
      refine hN _ ws wc (fun _ => Ext.refl _) hF3 ?_
      repeat (first
        | (refine pure_n rfl ?_; intro N hN; go_big_quiet_op; go_big_quiet_on)
        | (refine read_n rfl ?_; intro N hN; go_big_quiet_op; go_big_quiet_on)
        | (refine pure_g rfl rfl rfl rfl ?_; intro N hN; go_big_quiet_op; go_big_quiet_on)
        | (refine read_g rfl rfl rfl rfl ?_; intro N hN; go_big_quiet_op; go_big_quiet_on)
        | (refine skip_g rfl rfl rfl rfl ?_; simp only [Act.put, List.setIfInBounds_toArray, List.set_cons_zero, List.set_cons_succ]))
      refine eff_g rfl rfl rfl rfl ?_
      intro N hN
      go_big_op
      refine (HG1.out _ (HtX.out.ext hF3)).mono ?_
      rintro e wd ⟨rfl, hEd⟩
      have hF4 := hF3.trans hEd
      refine hN _ ws wd (fun _ => Ext.refl _) hF4 ?_
      repeat (first
        | (refine pure_n rfl ?_; intro N hN; go_big_quiet_op; go_big_quiet_on)
        | (refine read_n rfl ?_; intro N hN; go_big_quiet_op; go_big_quiet_on)
        | (refine pure_g rfl rfl rfl rfl ?_; intro N hN; go_big_quiet_op; go_big_quiet_on)
        | (refine read_g rfl rfl rfl rfl ?_; intro N hN; go_big_quiet_op; go_big_quiet_on)
        | (refine skip_g rfl rfl rfl rfl ?_; simp only [Act.put, List.setIfInBounds_toArray, List.set_cons_zero, List.set_cons_succ]))
      refine plan_nil ?_
      go_wp2
      refine ⟨⟨k + 1, by omega, by go_num, (hX.trans hEs).trans hF4⟩, by simp [intOf]; omega⟩
    · have hk' : k = 3 := by omega
      subst hk'
      have hTr := hTab7.ext hX
      have hBr := hB7.ext hX
      have hAr := hA7.ext hX
      have hSr := hS7.out.ext hX
      have hEr := hEw7.trans hX
      have hcell := fun k hk j hj => hSr.pkt (l := sOut) (by decide) k hk j hj
      have ca0 : wr.cell? ⟨g, 0, none⟩ = some (.int .i64 1) := hcell 0 (by decide) 0 (by decide)
      have ca1 : wr.cell? ⟨g, 1, none⟩ = some (.int .i64 0) := hcell 0 (by decide) 1 (by decide)
      have ca2 : wr.cell? ⟨g, 2, none⟩ = some (.string ⟨#[120]⟩) := hcell 0 (by decide) 2 (by decide)
      have ca3 : wr.cell? ⟨g, 3, none⟩ = some (.string (sP 0 ⟨#[120]⟩).sl) := hcell 0 (by decide) 3 (by decide)
      have cb0 : wr.cell? ⟨g, 4, none⟩ = some (.int .i64 2) := hcell 1 (by decide) 0 (by decide)
      have cb1 : wr.cell? ⟨g, 5, none⟩ = some (.int .i64 0) := hcell 1 (by decide) 1 (by decide)
      have cb2 : wr.cell? ⟨g, 6, none⟩ = some (.string ⟨#[121]⟩) := hcell 1 (by decide) 2 (by decide)
      have cb3 : wr.cell? ⟨g, 7, none⟩ = some (.string (sP 1 ⟨#[121]⟩).sl) := hcell 1 (by decide) 3 (by decide)
      have cc0 : wr.cell? ⟨g, 8, none⟩ = some (.int .i64 3) := hcell 2 (by decide) 0 (by decide)
      have cc1 : wr.cell? ⟨g, 9, none⟩ = some (.int .i64 0) := hcell 2 (by decide) 1 (by decide)
      have cc2 : wr.cell? ⟨g, 10, none⟩ = some (.string ⟨#[122]⟩) := hcell 2 (by decide) 2 (by decide)
      have cc3 : wr.cell? ⟨g, 11, none⟩ = some (.string (sP 2 ⟨#[122]⟩).sl) := hcell 2 (by decide) 3 (by decide)
      clear hcell
      have hg1 : ¬ fp 1 g := fun h => by have := hB.lows g h; omega
      have hg4 : ¬ fp4 g := fun h => by have := hA.lows g h; omega
      have hpos : 0 < w.heap.size := ht.pos
      have n1 : ¬ fp 1 0 := fun h => by have := hlB 0 h; omega
      have n4 : ¬ fp4 0 := fun h => by have := hlA 0 h; omega
      have hd' : ∀ k, fp4 k → ¬ fp 1 k := fun k h4 h1 => hd k h1 h4
      have hI1 : ∀ W, Tab W → EndAt W (fp 1) (E 1) (open0 1) → Calls Tryd.prog 26 #[.pointer (some ⟨E 1, 0, none⟩), .agg #[.int .i64 2, .int .i64 0, .string ⟨#[121]⟩, .string (sP 1 ⟨#[121]⟩).sl]] W fun e w' => ∃ v, e = .returned (.tuple #[v, .int .i64 0]) ∧ Own w' W.heap.size 9 1 v 0 [] ∧ Mod (fp 1) W w' ∧ EndAt w' (fp 1) (E 1) sB1 := fun W hW hE => by
        have := inn_any hE hW (by decide) (sP 1 ⟨#[121]⟩) (sP_takes rfl 1 (by decide) _ (by decide))
        rw [sB1_eq] at this
        exact this
      have hI2 : ∀ W, Tab W → EndAt W (fp 1) (E 1) sB1 → Calls Tryd.prog 26 #[.pointer (some ⟨E 1, 0, none⟩), .agg #[.int .i64 1, .int .i64 0, .string ⟨#[120]⟩, .string (sP 0 ⟨#[120]⟩).sl]] W fun e w' => ∃ v, e = .returned (.tuple #[v, .int .i64 0]) ∧ Own w' W.heap.size 9 1 v 2 (svals [⟨#[120]⟩, ⟨#[121]⟩]) ∧ Mod (fp 1) W w' ∧ EndAt w' (fp 1) (E 1) sB2 := fun W hW hE => by
        have := inn_any hE hW (by have := sB1_ins; omega) (sP 0 ⟨#[120]⟩) (sP_takes sB1_other 0 (by decide) _ (by decide))
        rw [sB2_eq] at this
        exact this
      have hI3 : ∀ W, Tab W → EndAt W (fp 1) (E 1) sB2 → Calls Tryd.prog 26 #[.pointer (some ⟨E 1, 0, none⟩), .agg #[.int .i64 2, .int .i64 0, .string ⟨#[121]⟩, .string (sP 1 ⟨#[121]⟩).sl]] W fun e w' => ∃ v, e = .returned (.tuple #[v, .int .i64 0]) ∧ Own w' W.heap.size 9 1 v 0 [] ∧ Mod (fp 1) W w' ∧ EndAt w' (fp 1) (E 1) sB3 := fun W hW hE => by
        have := inn_any hE hW (by have := sB2_ins; omega) (sP 1 ⟨#[121]⟩) (sP_takes sB2_other 1 (by decide) _ (by decide))
        rw [sB3_eq] at this
        exact this
      have hO : ∀ W, Tab W → EndAt W (fp 1) (E 1) sB3 → Calls Tryd.prog 22 #[.pointer (some ⟨E 1, 0, none⟩)] W fun e w' => ∃ v, e = .returned v ∧ w'.ownsRow W.heap.size 24 4 v 1 (pcells [sAck]) ∧ Ext W w' := fun W hW hE => by
        have := out_any hE hW
        rw [sB3_out] at this
        exact this
      have hI4 : ∀ W, Tab W → EndAt W fp4 (E 0) sA → Calls Tryd.prog 26 #[.pointer (some ⟨E 0, 0, none⟩), .agg #[.int .i64 0, .int .i64 2, .string ⟨#[]⟩, .string sAck.sl]] W fun e w' => ∃ v, e = .returned (.tuple #[v, .int .i64 0]) ∧ Own w' W.heap.size 9 1 v 0 [] ∧ Mod fp4 W w' ∧ EndAt w' fp4 (E 0) sA2 := fun W hW hE => by
        have := inn_any hE hW (by have := sA_ins; omega) sAck sA_takes
        rw [sA2_eq] at this
        exact this
      have hO2 : ∀ W, Tab W → EndAt W fp4 (E 0) sA2 → Calls Tryd.prog 22 #[.pointer (some ⟨E 0, 0, none⟩)] W fun e w' => ∃ v, e = .returned v ∧ w'.ownsRow W.heap.size 24 4 v 1 (pcells sRest) ∧ Ext W w' := fun W hW hE => by
        have := out_any hE hW
        rw [sA2_out] at this
        exact this
      have hI5 : ∀ W, Tab W → EndAt W (fp 1) (E 1) sB3 → Calls Tryd.prog 26 #[.pointer (some ⟨E 1, 0, none⟩), .agg #[.int .i64 3, .int .i64 0, .string ⟨#[119]⟩, .string (sP 2 ⟨#[122]⟩).sl]] W fun e w' => e = .returned (.tuple #[.slice none 0 0, .int .i64 410]) ∧ Ext W w' := fun W hW hE =>
        in_none hE hW { sP 2 ⟨#[122]⟩ with body := ⟨#[119]⟩ } odd_takes
      go_wp2_with (go_at_call 26; with_reducible refine (hI1 _ hTr hBr).mono ?_; rintro e wa ⟨v1, rfl, ho1, hma, hBa⟩; obtain ⟨p1, c1, rfl, _⟩ := ho1.form'; have hta := hma.tab hTr n1; have da0 := hma.cell ca0 hg1; have da1 := hma.cell ca1 hg1; have da2 := hma.cell ca2 hg1; have da3 := hma.cell ca3 hg1)
      go_wp2_with (go_at_call 26; with_reducible refine (hI2 _ hta hBa).mono ?_; rintro e wb ⟨v2, rfl, ho2, hmb, hBb⟩; obtain ⟨p2, c2, rfl, _⟩ := ho2.form'; have htb := hmb.tab hta n1; have eb0 := hmb.cell (hma.cell cb0 hg1) hg1; have eb1 := hmb.cell (hma.cell cb1 hg1) hg1; have eb2 := hmb.cell (hma.cell cb2 hg1) hg1; have eb3 := hmb.cell (hma.cell cb3 hg1) hg1)
      go_wp2_with (go_at_call 26; with_reducible refine (hI3 _ htb hBb).mono ?_; rintro e wc ⟨v3, rfl, ho3, hmc, hBc⟩; obtain ⟨p3, c3, rfl, _⟩ := ho3.form'; have htc := hmc.tab htb n1)
      go_wp2_with (go_at_call 22; go_loud (refine (hO _ htc hBc).mono ?_; rintro e wd ⟨v4, rfl, hod, hEd⟩; obtain ⟨gd, cd, hv, hgd, hgl, _⟩ := (toOwn hod).form (by decide); cases hv; have hSd := (toOwn hod).sl; have fd0 : wd.cell? ⟨gd, 0, none⟩ = some (.int .i64 0) := hSd.pkt (l := [sAck]) (by decide) 0 (by decide) 0 (by decide); have fd1 : wd.cell? ⟨gd, 1, none⟩ = some (.int .i64 2) := hSd.pkt (l := [sAck]) (by decide) 0 (by decide) 1 (by decide); have fd2 : wd.cell? ⟨gd, 2, none⟩ = some (.string ⟨#[]⟩) := hSd.pkt (l := [sAck]) (by decide) 0 (by decide) 2 (by decide); have fd3 : wd.cell? ⟨gd, 3, none⟩ = some (.string sAck.sl) := hSd.pkt (l := [sAck]) (by decide) 0 (by decide) 3 (by decide)))
      have hS2 : Sl wd (.slice p2 2 c2) 1 2 (svals [⟨#[120]⟩, ⟨#[121]⟩]) := ((hmc.own ho2 (fun k hk h => by have := (ho2.lt k hk).1; have := hBa.lows k h; omega)).ext hEd).sl
      have HT2 := Lib.hid (strings_any [⟨#[120]⟩, ⟨#[121]⟩] [⟨#[120]⟩, ⟨#[121]⟩] (hS2.ext ((Ext.refl wd).alloc _)) ((Row.new wd 9 (svals [⟨#[120]⟩, ⟨#[121]⟩])).sl (size := 1) (n := 2) rfl 2) (by decide) (by decide))
      have hBd := hBc.ext hEd
      have hrc : ∀ W, EndAt W (fp 1) (E 1) sB3 → Calls Tryd.prog 35 #[.pointer (some ⟨E 1, 0, none⟩)] W fun e w' => e = .returned (.int .i64 2) ∧ Ext W w' := fun W hW => by
        have := received_any hW
        rw [sB3_got] at this
        exact this
      go_wp2_with (go_at_call 28; go_loud (refine HT2.out.mono ?_; rintro e we ⟨rfl, hEe⟩; rw [decide_eq_true rfl]; have hEde := ((Ext.refl wd).alloc (.cells (svals [⟨#[120]⟩, ⟨#[121]⟩]).toArray 9)).trans hEe; have hBe := hBd.ext hEde))
      clear HT2
      go_wp2_with (go_at_call 35; go_loud (refine (hrc _ hBe).mono ?_; rintro e wf ⟨rfl, hEf⟩; have hEdf := hEde.trans hEf; have fe0 := hEdf.cell fd0; have fe1 := hEdf.cell fd1; have fe2 := hEdf.cell fd2; have fe3 := hEdf.cell fd3; have htf := (htc.ext hEd).ext hEdf; have hBf := hBd.ext hEdf; have hAf := ((((hAr.mod hma hd').mod hmb hd').mod hmc hd').ext hEd).ext hEdf))
      go_wp2_with (go_at_call 26; go_loud (refine (hI4 _ htf hAf).mono ?_; rintro e wg ⟨v5, rfl, ho5, hmg, hAg⟩; obtain ⟨p5, c5, rfl, _⟩ := ho5.form'; have htg := hmg.tab htf n4))
      have hBg := hBf.mod hmg hd
      have cg0 := hmg.cell (hEdf.cell (hEd.cell (hmc.cell (hmb.cell (hma.cell cc0 hg1) hg1) hg1))) hg4
      have cg1 := hmg.cell (hEdf.cell (hEd.cell (hmc.cell (hmb.cell (hma.cell cc1 hg1) hg1) hg1))) hg4
      have cg2 := hmg.cell (hEdf.cell (hEd.cell (hmc.cell (hmb.cell (hma.cell cc2 hg1) hg1) hg1))) hg4
      have cg3 := hmg.cell (hEdf.cell (hEd.cell (hmc.cell (hmb.cell (hma.cell cc3 hg1) hg1) hg1))) hg4
      have cs3 := hmg.cell (hEdf.cell (hEd.cell (hmc.cell (hmb.cell (hma.cell ca3 hg1) hg1) hg1))) hg4
      have hE0g : Ext w wg := ((((((hEr.mod hma hlB).mod hmb hlB).mod hmc hlB).trans hEd).trans hEdf).mod hmg hlA)
      clear hI1 hI2 hI3 hO hI4 hAr hBr hTr hSr hma hmb hmc hEd hEdf hEde hEe hEf hmg hAf hBf hBe hBd hBc hBa hBb ho1 ho2 ho3 ho5 hod hSd hS2 fd0 fd1 fd2 fd3 fe0 fe1 fe2 fe3 da0 da1 da2 da3 eb0 eb1 eb2 eb3 ca0 ca1 ca2 ca3 cb0 cb1 cb2 cb3 cc0 cc1 cc2 cc3 hta htb htc htf hrc
      go_wp2_with (go_at_call 22; go_loud (refine (hO2 _ htg hAg).mono ?_; rintro e wh ⟨v6, rfl, hoh, hEh⟩; obtain ⟨gh, ch, hv, hgh, hghl, _⟩ := (toOwn hoh).form (by decide); cases hv; have fh0 : wh.cell? ⟨gh, 0, none⟩ = some (.int .i64 3) := ((toOwn hoh).sl).pkt (l := sRest) (by decide) 0 (by decide) 0 (by decide); have ch0 := hEh.cell cg0; have ch1 := hEh.cell cg1; have ch2 := hEh.cell cg2; have ch3 := hEh.cell cg3))
      clear hoh hO2 cg0 cg1 cg2 cg3
      have hEo := (Ext.refl wh).alloc (.cells #[.int .i64 3, .int .i64 0, .string ⟨#[119]⟩, .string (sP 2 ⟨#[122]⟩).sl] 24)
      have hto := (htg.ext hEh).ext hEo
      have hBo := (hBg.ext hEh).ext hEo
      go_wp2_with (go_at_call 26; go_loud (refine (hI5 _ hto hBo).mono ?_; rintro e wi ⟨rfl, hEi⟩))
      go_wp2_with (go_at_call 17; go_loud (refine (key0_any _).mono ?_; rintro e wj ⟨rfl, hEj⟩))
      go_wp2_with (go_at_call 40; go_loud (refine (open_no ⟨#[]⟩ _ (by decide) _).mono ?_; rintro e wk ⟨rfl, hk⟩; subst wk))
      have hEhj := (hEo.trans hEi).trans hEj
      have hAj := (hAg.ext hEh).ext hEhj
      have fh : ∀ u, (wplus wj u).cell? ⟨gh, 0, none⟩ = some (.int .i64 3) := fun u => (ext_wplus wj u).cell (hEhj.cell fh0)
      have fs : ∀ u, (wplus wj u).cell? ⟨g, 3, none⟩ = some (.string (node (keyAt 0) (leaf ⟨#[16, 2, 0, 2, 120]⟩))) := fun u => by rw [← first_seal]; exact (ext_wplus wj u).cell (hEhj.cell (hEh.cell cs3))
      have HW : Hid (∀ W, EndAt W fp4 (E 0) sA2 → Calls Tryd.prog 33 #[.pointer (some ⟨E 0, 0, none⟩)] W fun e w' => e = .returned (.int .i64 1) ∧ Ext W w') := Lib.hid (fun W hW => by
        have := waiting_any hW
        rw [sA2_len, sA2_acked] at this
        exact this)
      have HL : Hid (∀ W, Calls Tryd.prog 43 #[.string ⟨#[16, 2, 0, 2, 120]⟩] W fun e w' => e = .returned (.string (leaf ⟨#[16, 2, 0, 2, 120]⟩)) ∧ Ext W w') := Lib.hid (fun W => leaf2_any _ (by decide) W)
      have HN : Hid (∀ W, Calls Tryd.prog 42 #[.string (keyAt 0), .string (leaf ⟨#[16, 2, 0, 2, 120]⟩)] W fun e w' => e = .returned (.string (node (keyAt 0) (leaf ⟨#[16, 2, 0, 2, 120]⟩))) ∧ Ext W w') := Lib.hid (fun W => node2_any _ _ (by rw [keyAt_size]; decide) (by unfold leaf; rw [sha_size]; decide) W)
      generalize leaf ⟨#[16, 2, 0, 2, 120]⟩ = lf at *
      generalize node (keyAt 0) lf = nd at *
      have hE0j : Ext w wj := ((hE0g.trans hEh).trans hEhj)
      clear hI5 hBo hto hBg htg hEi hEj hEh hEhj hEo fh0 cs3 ch0 ch1 ch2 ch3 hAg hE0g
      go_wp2
      refine wp_region_plan [] (.step 0 .pure (.step 1 .pure (.step 2 .pure (.step 3 .pure (.step 4 (.eff false) (.step 5 .pure (.step 6 .pure (.step 7 .pure (.step 8 .pure (.step 9 .pure (.step 10 .pure (.step 11 .pure (.step 12 .pure (.step 13 .pure (.step 14 .pure (.step 15 .pure (.step 16 .read (.step 17 .pure (.step 18 .pure (.step 19 .pure (.step 20 .pure (.step 21 .pure (.step 22 .pure (.step 23 .pure (.step 24 .pure (.step 25 .pure (.step 26 .pure (.step 27 .pure (.step 28 .pure (.step 29 .pure (.step 30 .pure (.step 31 .read (.step 32 (.eff false) (.step 33 (.eff false) (.step 34 (.eff false) (.step 35 .pure (.step 36 .pure (.step 37 .pure (.fin))))))))))))))))))))))))))))))))))))))) (by kernel_rfl) (by kernel_rfl) (Ext.refl wj) ?_
      simp only [pickOps, List.getD_cons_zero, List.getD_cons_succ]
      repeat (first
        | (refine pure_n rfl ?_; intro N hN; go_big_quiet_op; go_big_quiet_on)
        | (refine read_n rfl ?_; intro N hN; go_big_quiet_op; go_big_quiet_on)
        | (refine pure_g rfl rfl rfl rfl ?_; intro N hN; go_big_quiet_op; go_big_quiet_on)
        | (refine read_g rfl rfl rfl rfl ?_; intro N hN; go_big_quiet_op; go_big_quiet_on)
        | (refine skip_g rfl rfl rfl rfl ?_; simp only [Act.put, List.setIfInBounds_toArray, List.set_cons_zero, List.set_cons_succ]))
      refine eff_g rfl rfl rfl rfl ?_
      intro N hN
      go_big_op
      refine (HW.out _ (hAj.ext (Ext.refl _).drew)).mono ?_
      rintro e wl ⟨rfl, hEl⟩
      have hF1 := (Ext.refl wj).drew.trans hEl
      refine hN _ wj wl (fun _ => Ext.refl _) hF1 ?_
      repeat (first
        | (refine pure_n rfl ?_; intro N hN; go_big_quiet_op; go_big_quiet_on)
        | (refine read_n rfl ?_; intro N hN; go_big_quiet_op; go_big_quiet_on)
        | (refine pure_g rfl rfl rfl rfl ?_; intro N hN; go_big_quiet_op; go_big_quiet_on)
        | (refine read_g rfl rfl rfl rfl ?_; intro N hN; go_big_quiet_op; go_big_quiet_on)
        | (refine skip_g rfl rfl rfl rfl ?_; simp only [Act.put, List.setIfInBounds_toArray, List.set_cons_zero, List.set_cons_succ]))
      refine eff_g rfl rfl rfl rfl ?_
      intro N hN
      go_big_op
      refine (key0_any _).mono ?_
      rintro e wm ⟨rfl, hEwm⟩
      have hF2 := hF1.trans hEwm
      refine hN _ wj wm (fun _ => Ext.refl _) hF2 ?_
      repeat (first
        | (refine pure_n rfl ?_; intro N hN; go_big_quiet_op; go_big_quiet_on)
        | (refine read_n rfl ?_; intro N hN; go_big_quiet_op; go_big_quiet_on)
        | (refine pure_g rfl rfl rfl rfl ?_; intro N hN; go_big_quiet_op; go_big_quiet_on)
        | (refine read_g rfl rfl rfl rfl ?_; intro N hN; go_big_quiet_op; go_big_quiet_on)
        | (refine skip_g rfl rfl rfl rfl ?_; simp only [Act.put, List.setIfInBounds_toArray, List.set_cons_zero, List.set_cons_succ]))
      refine eff_g rfl rfl rfl rfl ?_
      intro N hN
      go_big_op
      refine (HL.out _).mono ?_
      rintro e wn ⟨rfl, hEwn⟩
      have hF3 := hF2.trans hEwn
      refine hN _ wj wn (fun _ => Ext.refl _) hF3 ?_
      repeat (first
        | (refine pure_n rfl ?_; intro N hN; go_big_quiet_op; go_big_quiet_on)
        | (refine read_n rfl ?_; intro N hN; go_big_quiet_op; go_big_quiet_on)
        | (refine pure_g rfl rfl rfl rfl ?_; intro N hN; go_big_quiet_op; go_big_quiet_on)
        | (refine read_g rfl rfl rfl rfl ?_; intro N hN; go_big_quiet_op; go_big_quiet_on)
        | (refine skip_g rfl rfl rfl rfl ?_; simp only [Act.put, List.setIfInBounds_toArray, List.set_cons_zero, List.set_cons_succ]))
      refine eff_g rfl rfl rfl rfl ?_
      intro N hN
      go_big_op
      refine (HN.out _).mono ?_
      rintro e wo ⟨rfl, hEo⟩
      have hF4 := hF3.trans hEo
      refine hN _ wj wo (fun _ => Ext.refl _) hF4 ?_
      repeat (first
        | (refine pure_n rfl ?_; intro N hN; go_big_quiet_op; go_big_quiet_on)
        | (refine read_n rfl ?_; intro N hN; go_big_quiet_op; go_big_quiet_on)
        | (refine pure_g rfl rfl rfl rfl ?_; intro N hN; go_big_quiet_op; go_big_quiet_on)
        | (refine read_g rfl rfl rfl rfl ?_; intro N hN; go_big_quiet_op; go_big_quiet_on)
        | (refine skip_g rfl rfl rfl rfl ?_; simp only [Act.put, List.setIfInBounds_toArray, List.set_cons_zero, List.set_cons_succ]))
      refine plan_nil ?_
      go_wp2
      go_ret
      exact ⟨by kernel_rfl, hE0j.trans hF4⟩
end Go.Proofs.YtjamakapkpkfeaaDoor
