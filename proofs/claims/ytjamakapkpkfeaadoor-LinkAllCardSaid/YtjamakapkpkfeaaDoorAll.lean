/- Contract of the law LinkAll. -/
import Derived.Test.YtjamakapkpkfeaaDoorSane
import Derived.Test.YtjamakapkpkfeaaDoorSep
import Derived.Test.YtjamakapkpkfeaaDoorAllP
import Derived.Test.YtjamakapkpkfeaaDoorOutP
namespace Go.Proofs.YtjamakapkpkfeaaDoor
open Go.RowKit Go.Shelf Sha

theorem pickL9_any (c : Int) (hc : I64 c) (w : World) : Calls Tryd.prog 18 #[.int .i64 c, .int .i64 9] w fun e w' => e = .returned (.int .i64 (pickN c 9 : Nat)) ∧ w' = w := pickL_any c 9 (by decide) (by decide) hc w
theorem pickL4'_any (c : Int) (hc : I64 c) (w : World) : Calls Tryd.prog 18 #[.int .i64 c, .int .i64 4] w fun e w' => e = .returned (.int .i64 (pickN c 4 : Nat)) ∧ w' = w := pickL_any c 4 (by decide) (by decide) hc w
set_option maxHeartbeats 1000000 in
theorem pickLB_any (c : Int) (n : Nat) (h0 : 0 < n) (hn : n ≤ 9223372036854775807) (hc : I64 c) (w : World) : Calls Tryd.prog 18 #[.int .i64 c, .int .i64 (n : Nat)] w fun e w' => e = .returned (.int .i64 (pickN c n : Nat)) ∧ w' = w := by
  obtain ⟨hc0, hc1⟩ := hc
  go_enter Tryd.func18, Tryd.ntmps18
  go_wp2
  · rename_i h
    go_ret
    refine ⟨?_, rfl⟩
    show Ending.returned (Value.int IntKind.i64 (-(c + 1).tmod (n : Int))) = _
    rw [← Int.neg_tmod, tmod_nat _ (by omega)]
    unfold pickN
    rw [if_pos h]
  · rename_i h
    go_ret
    refine ⟨?_, rfl⟩
    show Ending.returned (Value.int IntKind.i64 (c % (n : Int))) = _
    rw [← Int.tmod_eq_emod_of_nonneg h, tmod_nat _ h]
    unfold pickN
    rw [if_neg (by omega)]

/-- The things of the law: both ends, the slices of ends and of numbers, both arrays, and the lists of what was sent and received. -/
def allT (E : Nat → Nat) (bE bM bS bG m0 m1 : Nat) (A B : Lk) (s0 s1 g0 g1 : Value) (ls0 ls1 lg0 lg1 : List ByteArray) : List Thing :=
  [EndT (E 0) A, EndT (E 1) B, RowT bE 25 [.pointer (some ⟨E 0, 0, none⟩), .pointer (some ⟨E 1, 0, none⟩)], RowT bM 3 [.int .i64 (m0 : Nat), .int .i64 (m1 : Nat)], RowT bS 51 [s0, s1], RowT bG 51 [g0, g1],
    OwnT 9 1 s0 ls0.length (svals ls0), OwnT 9 1 s1 ls1.length (svals ls1), OwnT 9 1 g0 lg0.length (svals lg0), OwnT 9 1 g1 lg1.length (svals lg1)]

/-- .. and what goes out in a round. -/
def midT (E : Nat → Nat) (bE bM bS bG m0 m1 : Nat) (A B : Lk) (s0 s1 g0 g1 : Value) (ls0 ls1 lg0 lg1 : List ByteArray) (va vb : Value) (oa ob : List Pkt) (bO : Nat) : List Thing :=
  allT E bE bM bS bG m0 m1 A B s0 s1 g0 g1 ls0 ls1 lg0 lg1 ++ [SlT va 4 oa.length (pcells oa), SlT vb 4 ob.length (pcells ob), RowT bO 37 [va, vb]]

set_option maxRecDepth 100000 in
set_option maxHeartbeats 4000000 in
theorem linkAll_any (w : World) (ht : Tab w) (first second block : Int) (hf : I64 first) (hs : I64 second) (hbl : I64 block) {v : Value} {m : Nat} {y : Nat → Int} (hints : Ints w v m y) :
    Calls Tryd.prog 5 #[.int .i64 first, .int .i64 second, .int .i64 block, v] w fun e w' => e = .returned (.bool true) ∧ Ext w w' := by
  have HI := Lib.hid hints
  obtain ⟨p, c, rfl, hm2, hy64, _⟩ := hints
  simp only [maxLen] at hm2
  have Hy := Lib.hid hy64
  clear hy64
  have HP1 := Lib.hid (pickL9_any first hf)
  have HP2 := Lib.hid (pickL9_any second hs)
  have HP3 := Lib.hid (pickL4'_any block hbl)
  have hm0 := pickN_lt first (n := 9) (by decide)
  have hm1 := pickN_lt second (n := 9) (by decide)
  have hsz := pickN_lt block (n := 4) (by decide)
  clear hf hs hbl
  generalize pickN first 9 = m0 at *
  generalize pickN second 9 = m1 at *
  generalize pickN block 4 = sz at *
  go_enter Tryd.func5, Tryd.ntmps5
  go_wp2_with (go_at_call 13; refine (pair_any _).mono ?_; rintro e w1 ⟨E, fp, rfl, hE1, hT⟩)
  have ht1 := ht.ext hE1
  go_wp2_with (go_at_call 14; refine (sane_any _ ht1).mono ?_; rintro e w2 ⟨rfl, hE2⟩)
  have hS2 := (hT.ext hE2).sep
  have hEw := hE1.trans hE2
  clear hE1 hE2 hT ht1
  go_wp2_with (first
    | (go_at_call 18; with_reducible refine (HP1.out _).mono ?_; rintro e w3 ⟨rfl, hw⟩; subst w3)
    | (go_at_call 18; with_reducible refine (HP2.out _).mono ?_; rintro e w3 ⟨rfl, hw⟩; subst w3)
    | (go_at_call 18; with_reducible refine (HP3.out _).mono ?_; rintro e w3 ⟨rfl, hw⟩; subst w3))
  have hb2 := hEw.size
  have hS3 := hS2.newRow ((Ext.refl w2).alloc _) (Row.new w2 25 [.pointer (some ⟨E 0, 0, none⟩), .pointer (some ⟨E 1, 0, none⟩)]) (Nat.le_refl _) hb2
  have hS4 := hS3.newRow ((Ext.refl _).alloc _) (Row.new (w2.alloc (.cells #[.pointer (some ⟨E 0, 0, none⟩), .pointer (some ⟨E 1, 0, none⟩)] 25)) 3 [.int .i64 (m0 : Nat), .int .i64 (m1 : Nat)]) (Nat.le_refl _) (by simp; omega)
  rw [World.size_alloc] at hS4
  have hE4 : Ext w2 ((w2.alloc (.cells #[.pointer (some ⟨E 0, 0, none⟩), .pointer (some ⟨E 1, 0, none⟩)] 25)).alloc (.cells #[.int .i64 (m0 : Nat), .int .i64 (m1 : Nat)] 3)) := ((Ext.refl w2).alloc _).alloc _
  simp only [List.toArray, List.cons_append, List.nil_append] at hS4
  generalize hw4 : (w2.alloc (.cells #[.pointer (some ⟨E 0, 0, none⟩), .pointer (some ⟨E 1, 0, none⟩)] 25)).alloc (.cells #[.int .i64 (m0 : Nat), .int .i64 (m1 : Nat)] 3) = w4 at *
  clear hw4
  have hrM := hS4.row (i := 3) rfl
  have f0 : ∀ u, (wplus w4 u).cell? ⟨w2.heap.size + 1, 0, none⟩ = some (.int .i64 (m0 : Nat)) := fun u => (hrM.plus u).cell 0 (by show 0 < 2; decide)
  have f1 : ∀ u, (wplus w4 u).cell? ⟨w2.heap.size + 1, 1, none⟩ = some (.int .i64 (m1 : Nat)) := fun u => (hrM.plus u).cell 1 (by show 1 < 2; decide)
  refine wp_region_plan [] (.step 0 .pure (.step 1 .pure (.step 2 .pure (.step 3 .pure (.step 4 .pure (.step 5 .read (.step 6 .pure (.step 7 .pure (.step 8 .read (.step 9 .pure (.step 10 .pure (.step 11 .pure (.step 12 .pure (.step 13 .pure (.fin))))))))))))))) (by kernel_rfl) (by kernel_rfl) (Ext.refl w4) ?_
  simp only [pickOps, List.getD_cons_zero, List.getD_cons_succ]
  repeat (first
    | (refine pure_n rfl ?_; intro N hN; go_big_quiet_op; go_big_quiet_on)
    | (refine read_n rfl ?_; intro N hN; go_big_quiet_op; go_big_quiet_on)
    | (refine pure_g rfl rfl rfl rfl ?_; intro N hN; go_big_quiet_op; go_big_quiet_on)
    | (refine read_g rfl rfl rfl rfl ?_; intro N hN; go_big_quiet_op; go_big_quiet_on)
    | (refine skip_g rfl rfl rfl rfl ?_; simp only [Act.put, List.setIfInBounds_toArray, List.set_cons_zero, List.set_cons_succ]))
  refine plan_nil ?_
  have hE4w := hEw.trans hE4
  have hb4 := hE4w.size
  clear f0 f1 hrM hS3
  have hrd : Hid (wrap64 ((2 * (1 + (sz : Int)) - 1) * (2 * ((m0 : Int) + (m1 : Int)) + 1)) = (((2 * (1 + sz) - 1) * (2 * (m0 + m1) + 1) : Nat) : Int)) := Lib.hid (by
    have h1 : ((2 * (1 + (sz : Int)) - 1) * (2 * ((m0 : Int) + (m1 : Int)) + 1)) = (((2 * (1 + sz) - 1) * (2 * (m0 + m1) + 1) : Nat) : Int) := by
      rw [show (2 * (1 + (sz : Int)) - 1) = ((2 * (1 + sz) - 1 : Nat) : Int) by omega, show (2 * ((m0 : Int) + (m1 : Int)) + 1) = ((2 * (m0 + m1) + 1 : Nat) : Int) by omega, ← Int.natCast_mul]
    have h2 : (2 * (1 + sz) - 1) * (2 * (m0 + m1) + 1) ≤ 7 * 33 := Nat.mul_le_mul (by omega) (by omega)
    rw [h1, IntWalk.wrap64_in _ (by omega)])
  have hrm : (2 * (1 + sz) - 1) * (2 * (m0 + m1) + 1) ≤ 7 * 33 := Nat.mul_le_mul (by omega) (by omega)
  go_wp2
  rw [hrd.out]
  clear hrd
  generalize hRd : (2 * (1 + sz) - 1) * (2 * (m0 + m1) + 1) = rounds at *
  have HRd := Lib.hid hRd
  clear hRd
  have hS5 := hS4.newRow ((Ext.refl _).alloc _) (Row.new w4 51 [.slice none 0 0, .slice none 0 0]) (Nat.le_refl _) hb4
  have hS6 := hS5.newRow ((Ext.refl _).alloc _) (Row.new (w4.alloc (.cells #[.slice none 0 0, .slice none 0 0] 51)) 51 [.slice none 0 0, .slice none 0 0]) (Nat.le_refl _) (by simp; omega)
  rw [World.size_alloc] at hS6
  simp only [List.toArray, List.cons_append, List.nil_append] at hS6
  have hE6 : Ext w4 ((w4.alloc (.cells #[.slice none 0 0, .slice none 0 0] 51)).alloc (.cells #[.slice none 0 0, .slice none 0 0] 51)).drew := (((Ext.refl w4).alloc _).alloc _).drew
  have hS6 := hS6.ext ((Ext.refl _).drew)
  generalize hw6 : ((w4.alloc (.cells #[.slice none 0 0, .slice none 0 0] 51)).alloc (.cells #[.slice none 0 0, .slice none 0 0] 51)).drew = w6 at *
  clear hw6
  have hE6w := hE4w.trans hE6
  have hb6 := hE6w.size
  have hS6 := hS6.newOwn (Ext.refl _) (Own.nil _ _ 9 1) (by intro k hk; cases hk) hb6
  have hS6 := hS6.newOwn (Ext.refl _) (Own.nil _ _ 9 1) (by intro k hk; cases hk) hb6
  have hS6 := hS6.newOwn (Ext.refl _) (Own.nil _ _ 9 1) (by intro k hk; cases hk) hb6
  have hS6 := hS6.newOwn (Ext.refl _) (Own.nil _ _ 9 1) (by intro k hk; cases hk) hb6
  simp only [List.cons_append, List.nil_append] at hS6
  have hS6 : Hid (Sep w6 w.heap.size (allT E w2.heap.size (w2.heap.size + 1) w4.heap.size (w4.heap.size + 1) m0 m1 (lkC 0 0) (lkC 1 0) (.slice none 0 0) (.slice none 0 0) (.slice none 0 0) (.slice none 0 0) (msgs 0 0) (msgs 1 0) [] [])) := Lib.hid hS6
  have hE6w := Lib.hid hE6w
  generalize w2.heap.size = bE at *
  generalize w4.heap.size = bS at *
  clear hS4 hS5 hE4 hE4w hE6 hb4 hb6 hS2 hEw hb2
  go_loopw [18] (fun t wr => ∃ (n : Nat) (s0 s1 : Value), n ≤ 2 ∧ t = .int .i64 n ∧ Hid (Sep wr w.heap.size (allT E bE (bE + 1) bS (bS + 1) m0 m1 (lkC 0 (if 0 < n then m0 else 0)) (lkC 1 (if 1 < n then m1 else 0)) s0 s1 (.slice none 0 0) (.slice none 0 0) (msgs 0 (if 0 < n then m0 else 0)) (msgs 1 (if 1 < n then m1 else 0)) [] [])) ∧ Hid (Ext w wr)) (fun t _ => 2 - (intOf t).toNat)
  case atStart => exact ⟨0, _, _, by omega, rfl, hS6, hE6w⟩
  case round =>
    clear hS6 hE6w
    obtain ⟨n, s0, s1, hn, rfl, hS, hE⟩ := hrel
    rcases (show n = 0 ∨ n = 1 ∨ n = 2 by omega) with rfl | rfl | rfl
    · have hS : Hid (Sep wr w.heap.size (allT E bE (bE + 1) bS (bS + 1) m0 m1 (lkC 0 0) (lkC 1 0) s0 s1 (.slice none 0 0) (.slice none 0 0) (msgs 0 0) (msgs 1 0) [] [])) := hS
      obtain ⟨wo, hwo⟩ : ∃ u, u = wr := ⟨_, rfl⟩
      subst hwo
      rw [show ((0 : Nat) : Int) = (0 : Int) from rfl]
      go_wp2
      go_loopw [19] (fun t wr => ∃ (i : Nat) (s0 s1 : Value), i ≤ m0 ∧ t = .int .i64 i ∧ Hid (Sep wr w.heap.size (allT E bE (bE + 1) bS (bS + 1) m0 m1 (lkC 0 i) (lkC 1 0) s0 s1 (.slice none 0 0) (.slice none 0 0) (msgs 0 i) (msgs 1 0) [] [])) ∧ Hid (Ext w wr)) (fun t _ => m0 - (intOf t).toNat)
      case atStart => exact ⟨0, s0, s1, by omega, rfl, hS, hE⟩
      case round =>
        clear hS hE
        obtain ⟨i, s0, s1, hi, rfl, hS, hE⟩ := hrel
        have cM := (hS.out.row (i := 3) rfl).cell 0 (by show 0 < 2; decide)
        by_cases hlt : i < m0
        · have HBd := Lib.hid (body_any (17 * (i : Int)) ⟨by omega, by omega⟩)
          have hmsg := msgs_succ 0 i
          have hsnd := lkC_send 0 i
          have hok := lkC_sendOk (m := 0) (c := i) (by omega) (17 * (i : Int))
          rw [show (17 * (i : Int) + ((0 : Nat) : Int)) = 17 * (i : Int) by omega] at hmsg hsnd
          generalize bodyOf (17 * (i : Int)) = sb at *
          have Hmsg := Lib.hid hmsg
          have Hsnd := Lib.hid hsnd
          clear hmsg hsnd
          obtain ⟨pv, cv, rfl, _⟩ := (hS.out.own (i := 0 + 6) rfl).form'
          have hlen := Lib.hid (msgs_length 0 i)
          have Hge : Hid (∀ k, (Value.slice pv (msgs 0 i).length cv).ownBlock = some k → w.heap.size ≤ k) := Lib.hid (hS.out.ownGe (i := 0 + 6) rfl)
          have hgb : w.heap.size ≤ bS := hS.out.rowGe (i := 4) rfl
          go_wp2_with (first
            | (go_at_call 19; go_loud ((with_reducible refine (HBd.out _).mono ?_); rintro e w7 ⟨rfl, hE7⟩; have hE7' := hE.out.trans hE7; have hS7 := Lib.hid (hS.out.ext hE7); have ho7 := hS7.out.own (i := 0 + 6) rfl; have c7 := (hS7.out.row (i := 4) rfl).cell 0 (by show 0 < 2; decide)))
            | (at_builtin; go_loud (refine wpList_append_G2 rfl _ _ 44 rfl _ 9 (.string ByteArray.empty) 1 16 Tryd.underlying44 (by kernel_rfl) rfl (by decide) (ho7.alloc _) rfl [_] rfl rfl (new_cells _ _ _) (by simp [Value.oneCell']) (by (rw [hlen.out]); simp only [maxLen]; omega) (by (rw [hlen.out]); omega) (by have := Nat.zero_le w7.heap.size; simp at this ⊢ <;> omega) ?_; intro v8 w8 ho8 hg8 hn8; obtain ⟨p8, c8, rfl, _⟩ := ho8.form'; have hS8 := (hS7.out.ext ((Ext.refl w7).alloc _)).setOwn (i := 0 + 6) rfl hg8 ho8 hn8 (by simp; have := hE7'.size; omega); have hr8 := hS8.row (i := 4) rfl; have z8 := hr8.frozen 0; have d8 := hr8.cell 0 (by show 0 < 2; decide); have hb8 : w.heap.size ≤ w8.heap.size := (by have := hE7'.size; have := hg8.size; simp at this; omega); have hS9 := Lib.hid (hS8.setRow (i := 4) rfl (grown_at w8 bS 0 (.slice p8 ((msgs 0 i).length + 1) c8)) (hr8.set 0 (.slice p8 ((msgs 0 i).length + 1) c8)) hb8); have hE8 : Ext w w8 := (hE7'.alloc (.cells #[.string sb] 9)).grown hg8 Hge.out; have hE9 : Hid (Ext w (w8.setCell ⟨bS, 0, none⟩ (.slice p8 ((msgs 0 i).length + 1) c8))) := Lib.hid (hE8.grown (grown_at w8 bS 0 (.slice p8 ((msgs 0 i).length + 1) c8)) (fun k e => by cases e; exact hgb)); have hb9 := Nat.le_trans hb8 (grown_at w8 bS 0 (.slice p8 ((msgs 0 i).length + 1) c8)).size; have c9 := (hS9.out.row (i := 2) rfl).cell 0 (by show 0 < 2; decide)))
            | (go_at_call 20; go_loud (refine (sendT_any hS9.out (i := 0) rfl hb9 sb hok).mono ?_; rintro e w10 ⟨rfl, hS10, hm10⟩)))
          have hE10 := hE9.out.modGe hm10 (fun _ h => h)
          rw [Hsnd.out] at hS10
          have hfin : Sep w10 w.heap.size (allT E bE (bE + 1) bS (bS + 1) m0 m1 (lkC 0 (i + 1)) (lkC 1 0) (.slice p8 ((msgs 0 i).length + 1) c8) s1 (.slice none 0 0) (.slice none 0 0) (msgs 0 i ++ [sb]) (msgs 1 0) [] []) := by
            unfold allT; rw [svals_append, List.length_append]; exact hS10
          rw [← Hmsg.out] at hfin
          exact ⟨⟨i + 1, _, s1, by omega, by go_num, Lib.hid hfin, Lib.hid hE10⟩, by simp [intOf]; omega⟩
        · have hi' : i = m0 := by omega
          subst hi'
          go_wp2
          exact ⟨⟨1, s0, s1, by omega, by go_num, hS, hE⟩, by simp [intOf]⟩
    · have hS : Hid (Sep wr w.heap.size (allT E bE (bE + 1) bS (bS + 1) m0 m1 (lkC 0 m0) (lkC 1 0) s0 s1 (.slice none 0 0) (.slice none 0 0) (msgs 0 m0) (msgs 1 0) [] [])) := hS
      obtain ⟨wo, hwo⟩ : ∃ u, u = wr := ⟨_, rfl⟩
      subst hwo
      rw [show ((1 : Nat) : Int) = (1 : Int) from rfl]
      go_wp2
      go_loopw [19] (fun t wr => ∃ (i : Nat) (s0 s1 : Value), i ≤ m1 ∧ t = .int .i64 i ∧ Hid (Sep wr w.heap.size (allT E bE (bE + 1) bS (bS + 1) m0 m1 (lkC 0 m0) (lkC 1 i) s0 s1 (.slice none 0 0) (.slice none 0 0) (msgs 0 m0) (msgs 1 i) [] [])) ∧ Hid (Ext w wr)) (fun t _ => m1 - (intOf t).toNat)
      case atStart => exact ⟨0, s0, s1, by omega, rfl, hS, hE⟩
      case round =>
        clear hS hE
        obtain ⟨i, s0, s1, hi, rfl, hS, hE⟩ := hrel
        have cM := (hS.out.row (i := 3) rfl).cell 1 (by show 1 < 2; decide)
        by_cases hlt : i < m1
        · have HBd := Lib.hid (body_any (17 * (i : Int) + 1) ⟨by omega, by omega⟩)
          have hmsg := msgs_succ 1 i
          have hsnd := lkC_send 1 i
          have hok := lkC_sendOk (m := 1) (c := i) (by omega) (17 * (i : Int) + 1)
          rw [show (17 * (i : Int) + ((1 : Nat) : Int)) = 17 * (i : Int) + 1 by omega] at hmsg hsnd
          generalize bodyOf (17 * (i : Int) + 1) = sb at *
          have Hmsg := Lib.hid hmsg
          have Hsnd := Lib.hid hsnd
          clear hmsg hsnd
          obtain ⟨pv, cv, rfl, _⟩ := (hS.out.own (i := 1 + 6) rfl).form'
          have hlen := Lib.hid (msgs_length 1 i)
          have Hge : Hid (∀ k, (Value.slice pv (msgs 1 i).length cv).ownBlock = some k → w.heap.size ≤ k) := Lib.hid (hS.out.ownGe (i := 1 + 6) rfl)
          have hgb : w.heap.size ≤ bS := hS.out.rowGe (i := 4) rfl
          go_wp2_with (first
            | (go_at_call 19; go_loud ((with_reducible refine (HBd.out _).mono ?_); rintro e w7 ⟨rfl, hE7⟩; have hE7' := hE.out.trans hE7; have hS7 := Lib.hid (hS.out.ext hE7); have ho7 := hS7.out.own (i := 1 + 6) rfl; have c7 := (hS7.out.row (i := 4) rfl).cell 1 (by show 1 < 2; decide)))
            | (at_builtin; go_loud (refine wpList_append_G2 rfl _ _ 44 rfl _ 9 (.string ByteArray.empty) 1 16 Tryd.underlying44 (by kernel_rfl) rfl (by decide) (ho7.alloc _) rfl [_] rfl rfl (new_cells _ _ _) (by simp [Value.oneCell']) (by (rw [hlen.out]); simp only [maxLen]; omega) (by (rw [hlen.out]); omega) (by have := Nat.zero_le w7.heap.size; simp at this ⊢ <;> omega) ?_; intro v8 w8 ho8 hg8 hn8; obtain ⟨p8, c8, rfl, _⟩ := ho8.form'; have hS8 := (hS7.out.ext ((Ext.refl w7).alloc _)).setOwn (i := 1 + 6) rfl hg8 ho8 hn8 (by simp; have := hE7'.size; omega); have hr8 := hS8.row (i := 4) rfl; have z8 := hr8.frozen 1; have d8 := hr8.cell 1 (by show 1 < 2; decide); have hb8 : w.heap.size ≤ w8.heap.size := (by have := hE7'.size; have := hg8.size; simp at this; omega); have hS9 := Lib.hid (hS8.setRow (i := 4) rfl (grown_at w8 bS 1 (.slice p8 ((msgs 1 i).length + 1) c8)) (hr8.set 1 (.slice p8 ((msgs 1 i).length + 1) c8)) hb8); have hE8 : Ext w w8 := (hE7'.alloc (.cells #[.string sb] 9)).grown hg8 Hge.out; have hE9 : Hid (Ext w (w8.setCell ⟨bS, 1, none⟩ (.slice p8 ((msgs 1 i).length + 1) c8))) := Lib.hid (hE8.grown (grown_at w8 bS 1 (.slice p8 ((msgs 1 i).length + 1) c8)) (fun k e => by cases e; exact hgb)); have hb9 := Nat.le_trans hb8 (grown_at w8 bS 1 (.slice p8 ((msgs 1 i).length + 1) c8)).size; have c9 := (hS9.out.row (i := 2) rfl).cell 1 (by show 1 < 2; decide)))
            | (go_at_call 20; go_loud (refine (sendT_any hS9.out (i := 1) rfl hb9 sb hok).mono ?_; rintro e w10 ⟨rfl, hS10, hm10⟩)))
          have hE10 := hE9.out.modGe hm10 (fun _ h => h)
          rw [Hsnd.out] at hS10
          have hfin : Sep w10 w.heap.size (allT E bE (bE + 1) bS (bS + 1) m0 m1 (lkC 0 m0) (lkC 1 (i + 1)) s0 (.slice p8 ((msgs 1 i).length + 1) c8) (.slice none 0 0) (.slice none 0 0) (msgs 0 m0) (msgs 1 i ++ [sb]) [] []) := by
            unfold allT; rw [svals_append, List.length_append]; exact hS10
          rw [← Hmsg.out] at hfin
          exact ⟨⟨i + 1, s0, _, by omega, by go_num, Lib.hid hfin, Lib.hid hE10⟩, by simp [intOf]; omega⟩
        · have hi' : i = m1 := by omega
          subst hi'
          go_wp2
          exact ⟨⟨2, s0, s1, by omega, by go_num, hS, hE⟩, by simp [intOf]⟩
    · have hS : Hid (Sep wr w.heap.size (allT E bE (bE + 1) bS (bS + 1) m0 m1 (lkC 0 m0) (lkC 1 m1) s0 s1 (.slice none 0 0) (.slice none 0 0) (msgs 0 m0) (msgs 1 m1) [] [])) := hS
      obtain ⟨wo, hwo⟩ : ∃ u, u = wr := ⟨_, rfl⟩
      subst hwo
      rw [show ((2 : Nat) : Int) = (2 : Int) from rfl]
      go_wp2
      rw [show (1 + (sz : Int)) = ((1 + sz : Nat) : Int) by omega]
      have hspos : 0 < 1 + sz := by omega
      have hs4 : 1 + sz ≤ 4 := by omega
      generalize 1 + sz = s at *
      obtain ⟨c2, hc2⟩ : ∃ c2 : Nat → Nat, c2 = fun k => if k = 0 then m0 else m1 := ⟨_, rfl⟩
      have hc20 : c2 0 = m0 := by rw [hc2]; rfl
      have hc21 : c2 1 = m1 := by rw [hc2]; rfl
      have hnet : NetF (lkS c2) := lkS_net (fun k hk => by rcases (show k = 0 ∨ k = 1 by omega) with rfl | rfl <;> omega)
      have hins : ∀ n, n < 2 → (lkS c2 n).ins ≤ 100000 := fun n hn => Nat.zero_le _
      have hspec := fun r (hr : r ≤ 1000) => rounds_spec (which := (List.range m).map y) (s := s) hnet hins r (by omega)
      have hstep := fun r n (hr : r < 1000) (hn : n < 2) => gotR_succ (which := (List.range m).map y) (s := s) hnet hins (r := r) (by omega) hn
      have hrl0 : ∀ r, r < 1000 → lossy (arr ((List.range m).map y) s r 1 (roundsM ((List.range m).map y) s (lkS c2) r 1).out) (roundsM ((List.range m).map y) s (lkS c2) r 1).out (roundsM ((List.range m).map y) s (lkS c2) r 0) (roundsM ((List.range m).map y) s (lkS c2) r 1).out.length = (roundsM ((List.range m).map y) s (lkS c2) (r + 1) 0, (roundL ((List.range m).map y) s r (roundsM ((List.range m).map y) s (lkS c2) r) 0).2) := fun r _ => rfl
      have hrl1 : ∀ r, r < 1000 → lossy (arr ((List.range m).map y) s r 0 (roundsM ((List.range m).map y) s (lkS c2) r 0).out) (roundsM ((List.range m).map y) s (lkS c2) r 0).out (roundsM ((List.range m).map y) s (lkS c2) r 1) (roundsM ((List.range m).map y) s (lkS c2) r 0).out.length = (roundsM ((List.range m).map y) s (lkS c2) (r + 1) 1, (roundL ((List.range m).map y) s r (roundsM ((List.range m).map y) s (lkS c2) r) 1).2) := fun r _ => rfl
      have hc9 : ∀ n, n < 2 → c2 n ≤ 9 := fun k hk => by rcases (show k = 0 ∨ k = 1 by omega) with rfl | rfl <;> omega
      have hf0 := all_fin (which := (List.range m).map y) (rounds := rounds) hspos hs4 hc9 (by rw [hc20, hc21]; exact HRd.out.symm) (n := 0) (by omega)
      have hf1 := all_fin (which := (List.range m).map y) (rounds := rounds) hspos hs4 hc9 (by rw [hc20, hc21]; exact HRd.out.symm) (n := 1) (by omega)
      have hz0 : gotR ((List.range m).map y) s (lkS c2) 0 0 = [] := gotR_zero _ _ _ _
      have hz1 : gotR ((List.range m).map y) s (lkS c2) 0 1 = [] := gotR_zero _ _ _ _
      have hi0 : roundsM ((List.range m).map y) s (lkS c2) 0 0 = lkC 0 m0 := (show lkC 0 (c2 0) = lkC 0 m0 from by rw [hc20])
      have hi1 : roundsM ((List.range m).map y) s (lkS c2) 0 1 = lkC 1 m1 := (show lkC 1 (c2 1) = lkC 1 m1 from by rw [hc21])
      have hs0 : ∀ r, r ≤ 1000 → NetF (roundsM ((List.range m).map y) s (lkS c2) r) ∧ ∀ n, n < 2 → (roundsM ((List.range m).map y) s (lkS c2) r n).ins ≤ 4 * r := fun r hr => ⟨(hspec r hr).1.net, fun n hn => by have := (hspec r hr).2 n hn; have : (lkS c2 n).ins = 0 := rfl; omega⟩
      have hgl : ∀ r n, n < 2 → (gotR ((List.range m).map y) s (lkS c2) r n).length ≤ 100 := fun r n hn => gotR_len (by show (msgs (1 - n) (c2 (1 - n))).length ≤ 100; rw [msgs_length]; have := hc9 (1 - n) (by omega); omega)
      have hw : ∀ r n x, whenOf ((List.range m).map y) s r n x = if m = 0 then 0 else pickN (y (pickN (7 * ((r / s : Nat) : Int) + 3 * x + (n : Int)) m)) s := fun r n x => whenOf_map y m s r n x
      have hg0 := fun r (hr : r < 1000) => hstep r 0 hr (by omega)
      have hg1 := fun r (hr : r < 1000) => hstep r 1 hr (by omega)
      rw [hc21] at hf0
      rw [hc20] at hf1
      clear hspec hstep hins hnet hc9 hc20 hc21 hc2
      generalize gotR ((List.range m).map y) s (lkS c2) = GR at *
      generalize roundsM ((List.range m).map y) s (lkS c2) = RM at *
      generalize hwh : (List.range m).map y = which at *
      clear hwh
      have HF0 := Lib.hid hf0
      have HF1 := Lib.hid hf1
      have HS0 := Lib.hid hs0
      have HGL := Lib.hid hgl
      have HW := Lib.hid hw
      have HG0 := Lib.hid hg0
      have HG1 := Lib.hid hg1
      have HL0 := Lib.hid hrl0
      have HL1 := Lib.hid hrl1
      have hS : Hid (Sep wo w.heap.size (allT E bE (bE + 1) bS (bS + 1) m0 m1 (RM 0 0) (RM 0 1) s0 s1 (.slice none 0 0) (.slice none 0 0) (msgs 0 m0) (msgs 1 m1) (GR 0 0) (GR 0 1))) := Lib.hid (by rw [hi0, hi1, hz0, hz1]; exact hS.out)
      clear hf0 hf1 hs0 hgl hw hg0 hg1 hrl0 hrl1 hi0 hi1 hz0 hz1
      go_loopw [21] (fun t wr => ∃ (r : Nat) (g0 g1 : Value), r ≤ rounds ∧ t = .int .i64 r ∧ Hid (Sep wr w.heap.size (allT E bE (bE + 1) bS (bS + 1) m0 m1 (RM r 0) (RM r 1) s0 s1 g0 g1 (msgs 0 m0) (msgs 1 m1) (GR r 0) (GR r 1))) ∧ Hid (Ext w wr)) (fun t _ => rounds - (intOf t).toNat)
      case atStart => exact ⟨0, _, _, by omega, rfl, hS, hE⟩
      case round =>
        clear hS hE
        obtain ⟨r, g0, g1, hr, rfl, hS, hE⟩ := hrel
        by_cases hlt : r < rounds
        · obtain ⟨hnet, hins⟩ := HS0.out r (by omega)
          have hi0 := hins 0 (by omega)
          have hi1 := hins 1 (by omega)
          have hA4 := out_le (RM r 0)
          have hB4 := out_le (RM r 1)
          have HO0 := Lib.hid (outT_any hS.out (i := 0) rfl (ht.ext hE.out))
          have HO1 := Lib.hid (fun W (e : Ext wr W) => outT_any (hS.out.ext e) (i := 1) rfl ((ht.ext hE.out).ext e))
          go_wp2_with (first
            | (go_at_call 22; ((with_reducible refine HO0.out.mono ?_); rintro e w7 ⟨p7, c7, rfl, hS7, hE7, hg7, hc7⟩))
            | (go_at_call 22; ((with_reducible refine (HO1.out _ hE7).mono ?_); rintro e w8 ⟨p8, c8, rfl, hS8, hE8, hg8, hc8⟩)))
          have hb := hE.out.size
          have hT9 := hS.out.newSl hE7 hS7 hg7 hb
          have hE7w := hE.out.trans hE7
          have hT9 := hT9.newSl hE8 hS8 hg8 hE7w.size
          have hE8w := hE7w.trans hE8
          have hT9 := hT9.newRow ((Ext.refl w8).alloc _) (Row.new w8 37 [.slice p7 (RM r 0).out.length c7, .slice p8 (RM r 1).out.length c8]) (Nat.le_refl _) hE8w.size
          have hE9 : Hid (Ext w (w8.alloc (.cells #[.slice p7 (RM r 0).out.length c7, .slice p8 (RM r 1).out.length c8] 37))) := Lib.hid (hE8w.alloc _)
          have hT9 : Hid (Sep (w8.alloc (.cells #[.slice p7 (RM r 0).out.length c7, .slice p8 (RM r 1).out.length c8] 37)) w.heap.size (midT E bE (bE + 1) bS (bS + 1) m0 m1 (RM r 0) (RM r 1) s0 s1 g0 g1 (msgs 0 m0) (msgs 1 m1) (GR r 0) (GR r 1) (.slice p7 (RM r 0).out.length c7) (.slice p8 (RM r 1).out.length c8) (RM r 0).out (RM r 1).out w8.heap.size)) := Lib.hid hT9
          generalize w8.heap.size = bO at *
          clear hS hE hE7 hE8 hg7 hg8 hE7w hE8w HO0 HO1 hb
          have hNA : Net (RM r 0) (RM r 1) := hnet
          have hAr0 : ∀ i, i < (RM r 0).out.length → _ := fun i hi => arrives (which := which) (s := s) (r := r) (n := 0) hNA (fun p hp => sound_out hNA.okA hp) (by omega) hi
          have hAr1 : ∀ i, i < (RM r 1).out.length → _ := fun i hi => arrives (which := which) (s := s) (r := r) (n := 1) hNA.symm (fun p hp => sound_out hNA.okB hp) (by omega) hi
          have hFm0 : ∀ (i : Nat) p, (RM r 0).out[i]? = some p → Formed p := fun i p hp => (sound_out hNA.okA (List.mem_of_getElem? hp)).genuine hNA.okA |>.2.1
          have hFm1 : ∀ (i : Nat) p, (RM r 1).out[i]? = some p → Formed p := fun i p hp => (sound_out hNA.okB (List.mem_of_getElem? hp)).genuine hNA.okB |>.2.1
          have hL0 := HL0.out r (by omega)
          have hL1 := HL1.out r (by omega)
          have hG0 := HG0.out r (by omega)
          have hG1 := HG1.out r (by omega)
          have hgl0 := HGL.out r 0 (by omega)
          have hgl1 := HGL.out r 1 (by omega)
          generalize (roundL which s r (RM r) 0).snd = OL0 at *
          generalize (roundL which s r (RM r) 1).snd = OL1 at *
          generalize hRn0 : RM (r + 1) 0 = A' at *
          generalize hRn1 : RM (r + 1) 1 = B' at *
          generalize hGn0 : GR (r + 1) 0 = GA' at *
          generalize hGn1 : GR (r + 1) 1 = GB' at *
          generalize GR r 0 = GA at *
          generalize GR r 1 = GB at *
          generalize hoa : (RM r 0).out = oa at *
          generalize hob : (RM r 1).out = ob at *
          generalize RM r 0 = A at *
          generalize RM r 1 = B at *
          have HAr0 := Lib.hid hAr0
          have HAr1 := Lib.hid hAr1
          have HFm0 := Lib.hid hFm0
          have HFm1 := Lib.hid hFm1
          have HLL0 := Lib.hid hL0
          have HLL1 := Lib.hid hL1
          have HGG0 := Lib.hid hG0
          have HGG1 := Lib.hid hG1
          have HRn0 := Lib.hid hRn0
          have HRn1 := Lib.hid hRn1
          have HGn0 := Lib.hid hGn0
          have HGn1 := Lib.hid hGn1
          clear hnet hNA hAr0 hAr1 hFm0 hFm1 hL0 hL1 hG0 hG1 hRn0 hRn1 hGn0 hGn1 hins hi0 hi1
          obtain ⟨wp, hwp⟩ : ∃ u, u = wr := ⟨_, rfl⟩
          subst hwp
          go_loopw [23] (fun t wr => ∃ (n : Nat) (g0 g1 : Value), n ≤ 2 ∧ t = .int .i64 n ∧ Hid (Sep wr w.heap.size (midT E bE (bE + 1) bS (bS + 1) m0 m1 (if 1 < n then A' else A) (if 0 < n then B' else B) s0 s1 g0 g1 (msgs 0 m0) (msgs 1 m1) (if 1 < n then GA' else GA) (if 0 < n then GB' else GB) (.slice p7 oa.length c7) (.slice p8 ob.length c8) oa ob bO)) ∧ Hid (Ext w wr)) (fun t _ => 2 - (intOf t).toNat)
          case atStart => exact ⟨0, _, _, by omega, rfl, hT9, hE9⟩
          case round =>
            clear hT9 hE9
            obtain ⟨n, g0, g1, hn, rfl, hS, hE⟩ := hrel
            rcases (show n = 0 ∨ n = 1 ∨ n = 2 by omega) with rfl | rfl | rfl
            · have hS : Hid (Sep wr w.heap.size (midT E bE (bE + 1) bS (bS + 1) m0 m1 A B s0 s1 g0 g1 (msgs 0 m0) (msgs 1 m1) GA GB (.slice p7 oa.length c7) (.slice p8 ob.length c8) oa ob bO)) := hS
              obtain ⟨wq, hwq⟩ : ∃ u, u = wr := ⟨_, rfl⟩
              subst hwq
              rw [show ((0 : Nat) : Int) = (0 : Int) from rfl]
              go_wp2
              go_loopw [24] (fun t wr => ∃ (i : Nat) (g : Value), i ≤ oa.length ∧ t = .int .i64 i ∧ Hid (Sep wr w.heap.size (midT E bE (bE + 1) bS (bS + 1) m0 m1 A (lossy (arr which s r 0 oa) oa B i).1 s0 s1 g0 g (msgs 0 m0) (msgs 1 m1) GA (GB ++ (lossy (arr which s r 0 oa) oa B i).2) (.slice p7 oa.length c7) (.slice p8 ob.length c8) oa ob bO)) ∧ Hid (Ext w wr)) (fun t _ => oa.length - (intOf t).toNat)
              case atStart => exact ⟨0, _, by omega, rfl, Lib.hid (by rw [lossy_zero]; show Sep _ _ (midT E bE (bE + 1) bS (bS + 1) m0 m1 A B s0 s1 g0 g1 (msgs 0 m0) (msgs 1 m1) GA (GB ++ []) (.slice p7 oa.length c7) (.slice p8 ob.length c8) oa ob bO); rw [List.append_nil]; exact hS.out), hE⟩
              case round =>
                clear hS hE
                obtain ⟨i, g, hi, rfl, hS, hE⟩ := hrel
                have cO := (hS.out.row (i := 12) rfl).cell 0 (by show 0 < 2; decide)
                by_cases hlt2 : i < oa.length
                · obtain ⟨pk, hpk⟩ : ∃ pk, oa[i]? = some pk := ⟨_, List.getElem?_eq_getElem hlt2⟩
                  obtain ⟨ha1, ha2, ha3, hln0⟩ := HAr0.out i hlt2
                  have htk := ha1 pk hpk
                  have hser := (HFm0.out i pk hpk).1
                  have harr := arr_at (which := which) (s := s) (r := r) (n := 0) hpk
                  have hTK := fun h => lossy_take (R := B) (c := arr which s r 0 oa) h hpk
                  have hSK := fun h => lossy_skip (R := B) (out := oa) (c := arr which s r 0 oa) (k := i) h
                  have hWp := HW.out r 0 pk.ser
                  obtain ⟨_, _, _, h1, h2⟩ := hS.out.sl (i := 0 + 10) rfl
                  obtain ⟨gs, h3, _⟩ := h2 (by omega)
                  cases h1; subst h3
                  clear h2
                  have hc := Sl.pktT (l := oa) (hS.out.sl (i := 0 + 10) rfl) (by omega) hpk
                  obtain ⟨ps, pa, pb, pz⟩ := pk
                  unfold Pkt.cells at hc
                  have o0 : wr.cell? ⟨gs, i * 4, none⟩ = some (.int .i64 ps) := hc 0 (by decide)
                  have o1 : wr.cell? ⟨gs, i * 4 + 1, none⟩ = some (.int .i64 pa) := hc 1 (by decide)
                  have o2 : wr.cell? ⟨gs, i * 4 + 2, none⟩ = some (.string pb) := hc 2 (by decide)
                  have o3 : wr.cell? ⟨gs, i * 4 + 3, none⟩ = some (.string pz) := hc 3 (by decide)
                  have Htk := Lib.hid htk
                  have Hha2 := Lib.hid ha2
                  have Hha3 := Lib.hid ha3
                  have Harr := Lib.hid harr
                  have HTK := Lib.hid hTK
                  have HSK := Lib.hid hSK
                  have HWp := Lib.hid hWp
                  dsimp only at hser
                  have Hle : Hid ((lossy (arr which s r 0 oa) oa B i).2.length ≤ 100) := Lib.hid hln0
                  clear hc hpk htk ha1 ha2 ha3 harr hTK hSK hWp
                  have hr5 := Row.new wr 24 [.int .i64 ps, .int .i64 pa, .string pb, .string pz]
                  obtain ⟨pg, cg, rfl, _⟩ := (hS.out.own (i := 1 + 8) rfl).form'
                  have hEn := (Ext.refl wr).alloc (.cells #[.int .i64 ps, .int .i64 pa, .string pb, .string pz] 24)
                  have hb := hE.out.size
                  have htr := ht.ext hE.out
                  have hgb : w.heap.size ≤ bS + 1 := hS.out.rowGe (i := 5) rfl
                  have Hge : Hid (∀ k, (Value.slice pg (GB ++ (lossy (arr which s r 0 oa) oa B i).2).length cg).ownBlock = some k → w.heap.size ≤ k) := Lib.hid (hS.out.ownGe (i := 1 + 8) rfl)
                  have hlen : (GB ++ (lossy (arr which s r 0 oa) oa B i).2).length ≤ 200 := by rw [List.length_append]; have := Hle.out; omega
                  generalize hli : lossy (arr which s r 0 oa) oa B i = LI at *
                  generalize hli1 : lossy (arr which s r 0 oa) oa B (i + 1) = LI1 at *
                  have hT : ∀ wv : Nat, whenOf which s r 0 ps = wv → r % s = wv → LI1 = ((LI.1.inn ⟨ps, pa, pb, pz⟩).1, LI.2 ++ (LI.1.inn ⟨ps, pa, pb, pz⟩).2) := fun wv h1 h2 => HTK.out (by rw [Harr.out, h1, h2]; simp)
                  have hK : ∀ wv : Nat, whenOf which s r 0 ps = wv → r % s ≠ wv → LI1 = LI := fun wv h1 h2 => HSK.out (by rw [Harr.out, h1]; simpa using h2)
                  have HT := Lib.hid hT
                  have HK := Lib.hid hK
                  have Hli1 := Lib.hid hli1
                  generalize hnG : (GB ++ LI.2).length = nG at *
                  have HnG := Lib.hid hnG
                  clear hnG
                  clear hT hK HTK HSK Harr hli hli1 Hle
                  by_cases hm0' : m = 0
                  · subst hm0'
                    have hwv : whenOf which s r 0 ps = 0 := by rw [HWp.out, if_pos rfl]
                    have HT1 := Lib.hid (HT.out 0 hwv)
                    have HK1 := Lib.hid (HK.out 0 hwv)
                    clear hwv HT HK HWp
                    by_cases hq : r % s = 0
                    · have Hq := Lib.hid hq
                      have hqi : (r : Int) % (s : Int) = 0 := by rw [← Int.natCast_emod, hq]; rfl
                      clear hq
                      go_wp2
                      clear hqi
                      simp only [List.toArray] at hr5
                      generalize hwn : wr.alloc (.cells #[.int .i64 ps, .int .i64 pa, .string pb, .string pz] 24) = wn at *
                      clear hwn
                      have hSn := hS.out.ext hEn
                      have hEw := hE.out.trans hEn
                      have hre := hSn.row (i := 2) rfl
                      have hb5 := Nat.le_trans hb hEn.size
                      have fe : ∀ u, (wplus wn u).cell? ⟨bE, 1, none⟩ = some (.pointer (some ⟨E 1, 0, none⟩)) := fun u => (hre.plus u).cell 1 (by show 1 < 2; decide)
                      have p0 : ∀ u, (wplus wn u).cell? ⟨wr.heap.size, 0, none⟩ = some (.int .i64 ps) := fun u => (hr5.plus u).cell 0 (by show 0 < 4; decide)
                      have p1 : ∀ u, (wplus wn u).cell? ⟨wr.heap.size, 1, none⟩ = some (.int .i64 pa) := fun u => (hr5.plus u).cell 1 (by show 1 < 4; decide)
                      have p2 : ∀ u, (wplus wn u).cell? ⟨wr.heap.size, 2, none⟩ = some (.string pb) := fun u => (hr5.plus u).cell 2 (by show 2 < 4; decide)
                      have p3 : ∀ u, (wplus wn u).cell? ⟨wr.heap.size, 3, none⟩ = some (.string pz) := fun u => (hr5.plus u).cell 3 (by show 3 < 4; decide)
                      have HIn := Lib.hid (fun W (e : Ext wn W) => inTE_any (hEw.trans e) (hSn.ext e) (i := 1) rfl ((htr.ext hEn).ext e) Hha2.out ⟨ps, pa, pb, pz⟩ Htk.out)
                      unfold Pkt.val Pkt.cells at HIn
                      clear hre
                      have hLI := HT1.out Hq.out
                      have HLI := Lib.hid hLI
                      have hl3 := Hha3.out
                      rw [hLI] at hl3
                      dsimp only at hl3
                      rw [List.length_append] at hl3
                      clear hLI
                      generalize LI.1.inn ⟨ps, pa, pb, pz⟩ = rI at *
                      refine wp_region_plan [6] (.step 0 .pure (.step 1 .pure (.step 2 .pure (.step 3 .pure (.step 4 .read (.step 5 .read (.step 6 (.eff true) (.step 7 .pure (.step 8 .pure (.step 9 .pure (.step 10 .pure (.step 11 .pure (.fin))))))))))))) (by kernel_rfl) (by kernel_rfl) (Ext.refl wn) ?_
                      simp only [pickOps, List.getD_cons_zero, List.getD_cons_succ]
                      repeat (first
                        | (refine pure_n rfl ?_; intro N hN; go_big_quiet_op; go_big_quiet_on)
                        | (refine read_n rfl ?_; intro N hN; go_big_quiet_op; go_big_quiet_on)
                        | (refine pure_g rfl rfl rfl rfl ?_; intro N hN; go_big_quiet_op; go_big_quiet_on)
                        | (refine read_g rfl rfl rfl rfl ?_; intro N hN; go_big_quiet_op; go_big_quiet_on)
                        | (refine skip_g rfl rfl rfl rfl ?_; simp only [Act.put, List.setIfInBounds_toArray, List.set_cons_zero, List.set_cons_succ]))
                      refine eff_n rfl ?_
                      intro N hN
                      go_big_op
                      refine (HIn.out _ (by repeat first | exact Ext.refl _ | refine Ext.drew ?_)).mono ?_
                      rintro e w7 ⟨q7, c7', rfl, ho7, hS7, hm7⟩
                      refine hN _ w7 w7 (fun h => by cases h) (Ext.refl _) ?_
                      repeat (first
                        | (refine pure_n rfl ?_; intro N hN; go_big_quiet_op; go_big_quiet_on)
                        | (refine read_n rfl ?_; intro N hN; go_big_quiet_op; go_big_quiet_on)
                        | (refine pure_g rfl rfl rfl rfl ?_; intro N hN; go_big_quiet_op; go_big_quiet_on)
                        | (refine read_g rfl rfl rfl rfl ?_; intro N hN; go_big_quiet_op; go_big_quiet_on)
                        | (refine skip_g rfl rfl rfl rfl ?_; simp only [Act.put, List.setIfInBounds_toArray, List.set_cons_zero, List.set_cons_succ]))
                      refine plan_nil ?_
                      have HE7 := Lib.hid hm7
                      have hb7 := hm7.size
                      have ho9 := hS7.own (i := 1 + 8) (n := (GB ++ LI.2).length) rfl
                      rw [HnG.out] at ho9
                      have d7 := (hS7.row (i := 5) rfl).cell 1 (by show 1 < 2; decide)
                      clear hm7 fe p0 p1 p2 p3 HIn hb5
                      go_wp2_with (at_builtin; go_loud (refine wpList_append_S rfl _ _ 44 rfl 0 9 (.string ByteArray.empty) 1 16 Tryd.underlying44 (by kernel_rfl) rfl (by decide) ho9 rfl (svals rI.2) rfl ho7.sl.src (oneCell_svals _) (by simp only [maxLen]; omega) (by omega) (Nat.zero_le _) ?_; intro v9 w9 ho9' hg9 hn9; obtain ⟨p9, c9, rfl, _⟩ := ho9'.form'; have hS9 := hS7.setOwn (i := 1 + 8) rfl hg9 ho9' hn9 hb7; have hr9 := hS9.row (i := 5) rfl; have z9 := hr9.frozen 1; have d9 := hr9.cell 1 (by show 1 < 2; decide); have hb9 := Nat.le_trans hb7 hg9.size; have hE9 := HE7.out.grown hg9 Hge.out))
                      have hSA := hS9.setRow (i := 5) rfl (grown_at w9 (bS + 1) 1 (.slice p9 (nG + rI.2.length) c9)) (hr9.set 1 (.slice p9 (nG + rI.2.length) c9)) hb9
                      have hle9 : ((GB ++ LI.2) ++ rI.2).length = nG + rI.2.length := by rw [List.length_append, HnG.out]
                      exact ⟨⟨i + 1, _, by omega, by go_num, Lib.hid (by rw [Hli1.out, HLI.out]; dsimp only; rw [← List.append_assoc]; unfold midT allT; rw [svals_append, hle9]; exact hSA), Lib.hid (hE9.grown (grown_at w9 (bS + 1) 1 (.slice p9 (nG + rI.2.length) c9)) (fun k e => by cases e; exact hgb))⟩, by simp [intOf]; omega⟩
                    · have hqi : ((r : Int) % (s : Int) == 0) = false := by rw [← Int.natCast_emod]; exact beq_eq_false_iff_ne.2 (fun h => hq (Int.ofNat_inj.1 h))
                      have Hq := Lib.hid hq
                      clear hq
                      go_wp2
                      exact ⟨⟨i + 1, _, by omega, by go_num, Lib.hid (by rw [Hli1.out, HK1.out Hq.out]; exact hS.out.ext hEn), Lib.hid (hE.out.trans hEn)⟩, by simp [intOf]; omega⟩
                  · have hmpos : 0 < m := by omega
                    obtain ⟨_, _, h1, _, _, h2⟩ := HI.out
                    obtain ⟨gi, oi, h3, _⟩ := h2 hmpos
                    cases h1; subst h3
                    clear h2
                    have hrs : 0 ≤ (r : Int) / (s : Int) ∧ (r : Int) / (s : Int) ≤ 1000 := by
                      rw [← Int.natCast_ediv]
                      have := Nat.div_le_self r s
                      generalize r / s = q at *
                      omega
                    have harg : (7 * ((r / s : Nat) : Int) + 3 * ps + ((0 : Nat) : Int)) = 7 * ((r : Int) / (s : Int)) + 3 * ps := by rw [Int.natCast_ediv]; simp
                    have hidx := pickN_lt (7 * ((r : Int) / (s : Int)) + 3 * ps) (n := m) hmpos
                    have HPa := Lib.hid (pickLB_any (7 * ((r : Int) / (s : Int)) + 3 * ps) m hmpos (by omega) ⟨by omega, by omega⟩)
                    have hwv : whenOf which s r 0 ps = pickN (y (pickN (7 * ((r : Int) / (s : Int)) + 3 * ps) m)) s := by rw [HWp.out, if_neg hm0', harg]
                    generalize pickN (7 * ((r : Int) / (s : Int)) + 3 * ps) m = ix at *
                    have HPb := Lib.hid (pickLB_any (y ix) s hspos (by omega) (Hy.out ix))
                    generalize pickN (y ix) s = wv at *
                    have hcy := Ints.cell (HI.out.ext (hE.out.trans hEn)) hidx
                    have HT1 := Lib.hid (HT.out wv hwv)
                    have HK1 := Lib.hid (HK.out wv hwv)
                    clear hwv HT HK HWp harg
                    go_wp2
                    simp only [List.toArray] at hr5
                    generalize hwn : wr.alloc (.cells #[.int .i64 ps, .int .i64 pa, .string pb, .string pz] 24) = wn at *
                    clear hwn
                    have hSn := hS.out.ext hEn
                    have hEw := hE.out.trans hEn
                    have hre := hSn.row (i := 2) rfl
                    have hb5 := Nat.le_trans hb hEn.size
                    have fe : ∀ u, (wplus wn u).cell? ⟨bE, 1, none⟩ = some (.pointer (some ⟨E 1, 0, none⟩)) := fun u => (hre.plus u).cell 1 (by show 1 < 2; decide)
                    have p0 : ∀ u, (wplus wn u).cell? ⟨wr.heap.size, 0, none⟩ = some (.int .i64 ps) := fun u => (hr5.plus u).cell 0 (by show 0 < 4; decide)
                    have p1 : ∀ u, (wplus wn u).cell? ⟨wr.heap.size, 1, none⟩ = some (.int .i64 pa) := fun u => (hr5.plus u).cell 1 (by show 1 < 4; decide)
                    have p2 : ∀ u, (wplus wn u).cell? ⟨wr.heap.size, 2, none⟩ = some (.string pb) := fun u => (hr5.plus u).cell 2 (by show 2 < 4; decide)
                    have p3 : ∀ u, (wplus wn u).cell? ⟨wr.heap.size, 3, none⟩ = some (.string pz) := fun u => (hr5.plus u).cell 3 (by show 3 < 4; decide)
                    have HIn := Lib.hid (fun W (e : Ext wn W) => inTE_any (hEw.trans e) (hSn.ext e) (i := 1) rfl ((htr.ext hEn).ext e) Hha2.out ⟨ps, pa, pb, pz⟩ Htk.out)
                    unfold Pkt.val Pkt.cells at HIn
                    clear hre
                    have fy : ∀ u, (wplus wn u).cell? ⟨gi, oi + ix, none⟩ = some (.int .i64 (y ix)) := fun u => (ext_wplus wn u).cell hcy
                    refine wp_region_plan [] (.step 0 .pure (.step 1 .pure (.step 2 .pure (.step 3 .pure (.step 4 .pure (.step 5 .pure (.step 6 .read (.step 7 .pure (.step 8 .pure (.step 9 .pure (.step 10 .pure (.step 11 .pure (.step 12 .pure (.step 16 .pure (.step 13 (.eff false) (.step 14 .pure (.step 15 .read (.step 17 (.eff false) (.step 18 .pure (.fin)))))))))))))))))))) (by kernel_rfl) (by kernel_rfl) (Ext.refl wn) ?_
                    simp only [pickOps, List.getD_cons_zero, List.getD_cons_succ]
                    repeat (first
                      | (refine pure_n rfl ?_; intro N hN; go_big_quiet_op; go_big_quiet_on)
                      | (refine read_n rfl ?_; intro N hN; go_big_quiet_op; go_big_quiet_on)
                      | (refine pure_g rfl rfl rfl rfl ?_; intro N hN; go_big_quiet_op; go_big_quiet_on)
                      | (refine read_g rfl rfl rfl rfl ?_; intro N hN; go_big_quiet_op; go_big_quiet_on)
                      | (refine skip_g rfl rfl rfl rfl ?_; simp only [Act.put, List.setIfInBounds_toArray, List.set_cons_zero, List.set_cons_succ]))
                    refine eff_n rfl ?_
                    intro N hN
                    go_big_op
                    refine (HPa.out _).mono ?_
                    rintro e wx ⟨rfl, hwx⟩
                    subst wx
                    refine hN _ wn _ (fun _ => Ext.refl _) (by repeat first | exact Ext.refl _ | refine Ext.drew ?_) ?_
                    repeat (first
                      | (refine pure_n rfl ?_; intro N hN; go_big_quiet_op; go_big_quiet_on)
                      | (refine read_n rfl ?_; intro N hN; go_big_quiet_op; go_big_quiet_on)
                      | (refine pure_g rfl rfl rfl rfl ?_; intro N hN; go_big_quiet_op; go_big_quiet_on)
                      | (refine read_g rfl rfl rfl rfl ?_; intro N hN; go_big_quiet_op; go_big_quiet_on)
                      | (refine skip_g rfl rfl rfl rfl ?_; simp only [Act.put, List.setIfInBounds_toArray, List.set_cons_zero, List.set_cons_succ]))
                    refine eff_n rfl ?_
                    intro N hN
                    go_big_op
                    refine (HPb.out _).mono ?_
                    rintro e wx ⟨rfl, hwx⟩
                    subst wx
                    refine hN _ wn _ (fun _ => Ext.refl _) (by repeat first | exact Ext.refl _ | refine Ext.drew ?_) ?_
                    repeat (first
                      | (refine pure_n rfl ?_; intro N hN; go_big_quiet_op; go_big_quiet_on)
                      | (refine read_n rfl ?_; intro N hN; go_big_quiet_op; go_big_quiet_on)
                      | (refine pure_g rfl rfl rfl rfl ?_; intro N hN; go_big_quiet_op; go_big_quiet_on)
                      | (refine read_g rfl rfl rfl rfl ?_; intro N hN; go_big_quiet_op; go_big_quiet_on)
                      | (refine skip_g rfl rfl rfl rfl ?_; simp only [Act.put, List.setIfInBounds_toArray, List.set_cons_zero, List.set_cons_succ]))
                    refine plan_nil ?_
                    clear fy hcy
                    by_cases hq : r % s = wv
                    · have Hq := Lib.hid hq
                      have hqi : (r : Int) % (s : Int) = (wv : Nat) := by rw [← Int.natCast_emod, hq]
                      clear hq
                      go_wp2
                      clear hqi
                      have hLI := HT1.out Hq.out
                      have HLI := Lib.hid hLI
                      have hl3 := Hha3.out
                      rw [hLI] at hl3
                      dsimp only at hl3
                      rw [List.length_append] at hl3
                      clear hLI
                      generalize LI.1.inn ⟨ps, pa, pb, pz⟩ = rI at *
                      refine wp_region_plan [6] (.step 0 .pure (.step 1 .pure (.step 2 .pure (.step 3 .pure (.step 4 .read (.step 5 .read (.step 6 (.eff true) (.step 7 .pure (.step 8 .pure (.step 9 .pure (.step 10 .pure (.step 11 .pure (.fin))))))))))))) (by kernel_rfl) (by kernel_rfl) ((Ext.refl wn).drew) ?_
                      simp only [pickOps, List.getD_cons_zero, List.getD_cons_succ]
                      repeat (first
                        | (refine pure_n rfl ?_; intro N hN; go_big_quiet_op; go_big_quiet_on)
                        | (refine read_n rfl ?_; intro N hN; go_big_quiet_op; go_big_quiet_on)
                        | (refine pure_g rfl rfl rfl rfl ?_; intro N hN; go_big_quiet_op; go_big_quiet_on)
                        | (refine read_g rfl rfl rfl rfl ?_; intro N hN; go_big_quiet_op; go_big_quiet_on)
                        | (refine skip_g rfl rfl rfl rfl ?_; simp only [Act.put, List.setIfInBounds_toArray, List.set_cons_zero, List.set_cons_succ]))
                      refine eff_n rfl ?_
                      intro N hN
                      go_big_op
                      refine (HIn.out _ (by repeat first | exact Ext.refl _ | refine Ext.drew ?_)).mono ?_
                      rintro e w7 ⟨q7, c7', rfl, ho7, hS7, hm7⟩
                      refine hN _ w7 w7 (fun h => by cases h) (Ext.refl _) ?_
                      repeat (first
                        | (refine pure_n rfl ?_; intro N hN; go_big_quiet_op; go_big_quiet_on)
                        | (refine read_n rfl ?_; intro N hN; go_big_quiet_op; go_big_quiet_on)
                        | (refine pure_g rfl rfl rfl rfl ?_; intro N hN; go_big_quiet_op; go_big_quiet_on)
                        | (refine read_g rfl rfl rfl rfl ?_; intro N hN; go_big_quiet_op; go_big_quiet_on)
                        | (refine skip_g rfl rfl rfl rfl ?_; simp only [Act.put, List.setIfInBounds_toArray, List.set_cons_zero, List.set_cons_succ]))
                      refine plan_nil ?_
                      have HE7 := Lib.hid hm7
                      have hb7 := hm7.size
                      have ho9 := hS7.own (i := 1 + 8) (n := (GB ++ LI.2).length) rfl
                      rw [HnG.out] at ho9
                      have d7 := (hS7.row (i := 5) rfl).cell 1 (by show 1 < 2; decide)
                      clear hm7 fe p0 p1 p2 p3 HIn hb5
                      go_wp2_with (at_builtin; go_loud (refine wpList_append_S rfl _ _ 44 rfl 0 9 (.string ByteArray.empty) 1 16 Tryd.underlying44 (by kernel_rfl) rfl (by decide) ho9 rfl (svals rI.2) rfl ho7.sl.src (oneCell_svals _) (by simp only [maxLen]; omega) (by omega) (Nat.zero_le _) ?_; intro v9 w9 ho9' hg9 hn9; obtain ⟨p9, c9, rfl, _⟩ := ho9'.form'; have hS9 := hS7.setOwn (i := 1 + 8) rfl hg9 ho9' hn9 hb7; have hr9 := hS9.row (i := 5) rfl; have z9 := hr9.frozen 1; have d9 := hr9.cell 1 (by show 1 < 2; decide); have hb9 := Nat.le_trans hb7 hg9.size; have hE9 := HE7.out.grown hg9 Hge.out))
                      have hSA := hS9.setRow (i := 5) rfl (grown_at w9 (bS + 1) 1 (.slice p9 (nG + rI.2.length) c9)) (hr9.set 1 (.slice p9 (nG + rI.2.length) c9)) hb9
                      have hle9 : ((GB ++ LI.2) ++ rI.2).length = nG + rI.2.length := by rw [List.length_append, HnG.out]
                      exact ⟨⟨i + 1, _, by omega, by go_num, Lib.hid (by rw [Hli1.out, HLI.out]; dsimp only; rw [← List.append_assoc]; unfold midT allT; rw [svals_append, hle9]; exact hSA), Lib.hid (hE9.grown (grown_at w9 (bS + 1) 1 (.slice p9 (nG + rI.2.length) c9)) (fun k e => by cases e; exact hgb))⟩, by simp [intOf]; omega⟩
                    · have hqi : ((r : Int) % (s : Int) == (wv : Nat)) = false := by rw [← Int.natCast_emod]; exact beq_eq_false_iff_ne.2 (fun h => hq (Int.ofNat_inj.1 h))
                      have Hq := Lib.hid hq
                      clear hq
                      go_wp2
                      exact ⟨⟨i + 1, _, by omega, by go_num, Lib.hid (by rw [Hli1.out, HK1.out Hq.out]; exact hSn.ext (by repeat first | exact Ext.refl _ | refine Ext.drew ?_)), Lib.hid (hEw.trans (by repeat first | exact Ext.refl _ | refine Ext.drew ?_))⟩, by simp [intOf]; omega⟩
                · have hi' : i = oa.length := by omega
                  subst hi'
                  have hS' : Hid (Sep wr w.heap.size (midT E bE (bE + 1) bS (bS + 1) m0 m1 A B' s0 s1 g0 g (msgs 0 m0) (msgs 1 m1) GA GB' (.slice p7 oa.length c7) (.slice p8 ob.length c8) oa ob bO)) := Lib.hid (by rw [HGG1.out]; have h9 := hS.out; rw [HLL1.out] at h9; exact h9)
                  clear hS
                  go_wp2
                  exact ⟨⟨0 + 1, _, _, by omega, by go_num, hS', hE⟩, by simp [intOf]⟩
            · have hS : Hid (Sep wr w.heap.size (midT E bE (bE + 1) bS (bS + 1) m0 m1 A B' s0 s1 g0 g1 (msgs 0 m0) (msgs 1 m1) GA GB' (.slice p7 oa.length c7) (.slice p8 ob.length c8) oa ob bO)) := hS
              obtain ⟨wq, hwq⟩ : ∃ u, u = wr := ⟨_, rfl⟩
              subst hwq
              rw [show ((1 : Nat) : Int) = (1 : Int) from rfl]
              go_wp2
              go_loopw [24] (fun t wr => ∃ (i : Nat) (g : Value), i ≤ ob.length ∧ t = .int .i64 i ∧ Hid (Sep wr w.heap.size (midT E bE (bE + 1) bS (bS + 1) m0 m1 (lossy (arr which s r 1 ob) ob A i).1 B' s0 s1 g g1 (msgs 0 m0) (msgs 1 m1) (GA ++ (lossy (arr which s r 1 ob) ob A i).2) GB' (.slice p7 oa.length c7) (.slice p8 ob.length c8) oa ob bO)) ∧ Hid (Ext w wr)) (fun t _ => ob.length - (intOf t).toNat)
              case atStart => exact ⟨0, _, by omega, rfl, Lib.hid (by rw [lossy_zero]; show Sep _ _ (midT E bE (bE + 1) bS (bS + 1) m0 m1 A B' s0 s1 g0 g1 (msgs 0 m0) (msgs 1 m1) (GA ++ []) GB' (.slice p7 oa.length c7) (.slice p8 ob.length c8) oa ob bO); rw [List.append_nil]; exact hS.out), hE⟩
              case round =>
                clear hS hE
                obtain ⟨i, g, hi, rfl, hS, hE⟩ := hrel
                have cO := (hS.out.row (i := 12) rfl).cell 1 (by show 1 < 2; decide)
                by_cases hlt2 : i < ob.length
                · obtain ⟨pk, hpk⟩ : ∃ pk, ob[i]? = some pk := ⟨_, List.getElem?_eq_getElem hlt2⟩
                  obtain ⟨ha1, ha2, ha3, hln0⟩ := HAr1.out i hlt2
                  have htk := ha1 pk hpk
                  have hser := (HFm1.out i pk hpk).1
                  have harr := arr_at (which := which) (s := s) (r := r) (n := 1) hpk
                  have hTK := fun h => lossy_take (R := A) (c := arr which s r 1 ob) h hpk
                  have hSK := fun h => lossy_skip (R := A) (out := ob) (c := arr which s r 1 ob) (k := i) h
                  have hWp := HW.out r 1 pk.ser
                  obtain ⟨_, _, _, h1, h2⟩ := hS.out.sl (i := 1 + 10) rfl
                  obtain ⟨gs, h3, _⟩ := h2 (by omega)
                  cases h1; subst h3
                  clear h2
                  have hc := Sl.pktT (l := ob) (hS.out.sl (i := 1 + 10) rfl) (by omega) hpk
                  obtain ⟨ps, pa, pb, pz⟩ := pk
                  unfold Pkt.cells at hc
                  have o0 : wr.cell? ⟨gs, i * 4, none⟩ = some (.int .i64 ps) := hc 0 (by decide)
                  have o1 : wr.cell? ⟨gs, i * 4 + 1, none⟩ = some (.int .i64 pa) := hc 1 (by decide)
                  have o2 : wr.cell? ⟨gs, i * 4 + 2, none⟩ = some (.string pb) := hc 2 (by decide)
                  have o3 : wr.cell? ⟨gs, i * 4 + 3, none⟩ = some (.string pz) := hc 3 (by decide)
                  have Htk := Lib.hid htk
                  have Hha2 := Lib.hid ha2
                  have Hha3 := Lib.hid ha3
                  have Harr := Lib.hid harr
                  have HTK := Lib.hid hTK
                  have HSK := Lib.hid hSK
                  have HWp := Lib.hid hWp
                  dsimp only at hser
                  have Hle : Hid ((lossy (arr which s r 1 ob) ob A i).2.length ≤ 100) := Lib.hid hln0
                  clear hc hpk htk ha1 ha2 ha3 harr hTK hSK hWp
                  have hr5 := Row.new wr 24 [.int .i64 ps, .int .i64 pa, .string pb, .string pz]
                  obtain ⟨pg, cg, rfl, _⟩ := (hS.out.own (i := 0 + 8) rfl).form'
                  have hEn := (Ext.refl wr).alloc (.cells #[.int .i64 ps, .int .i64 pa, .string pb, .string pz] 24)
                  have hb := hE.out.size
                  have htr := ht.ext hE.out
                  have hgb : w.heap.size ≤ bS + 1 := hS.out.rowGe (i := 5) rfl
                  have Hge : Hid (∀ k, (Value.slice pg (GA ++ (lossy (arr which s r 1 ob) ob A i).2).length cg).ownBlock = some k → w.heap.size ≤ k) := Lib.hid (hS.out.ownGe (i := 0 + 8) rfl)
                  have hlen : (GA ++ (lossy (arr which s r 1 ob) ob A i).2).length ≤ 200 := by rw [List.length_append]; have := Hle.out; omega
                  generalize hli : lossy (arr which s r 1 ob) ob A i = LI at *
                  generalize hli1 : lossy (arr which s r 1 ob) ob A (i + 1) = LI1 at *
                  have hT : ∀ wv : Nat, whenOf which s r 1 ps = wv → r % s = wv → LI1 = ((LI.1.inn ⟨ps, pa, pb, pz⟩).1, LI.2 ++ (LI.1.inn ⟨ps, pa, pb, pz⟩).2) := fun wv h1 h2 => HTK.out (by rw [Harr.out, h1, h2]; simp)
                  have hK : ∀ wv : Nat, whenOf which s r 1 ps = wv → r % s ≠ wv → LI1 = LI := fun wv h1 h2 => HSK.out (by rw [Harr.out, h1]; simpa using h2)
                  have HT := Lib.hid hT
                  have HK := Lib.hid hK
                  have Hli1 := Lib.hid hli1
                  generalize hnG : (GA ++ LI.2).length = nG at *
                  have HnG := Lib.hid hnG
                  clear hnG
                  clear hT hK HTK HSK Harr hli hli1 Hle
                  by_cases hm0' : m = 0
                  · subst hm0'
                    have hwv : whenOf which s r 1 ps = 0 := by rw [HWp.out, if_pos rfl]
                    have HT1 := Lib.hid (HT.out 0 hwv)
                    have HK1 := Lib.hid (HK.out 0 hwv)
                    clear hwv HT HK HWp
                    by_cases hq : r % s = 0
                    · have Hq := Lib.hid hq
                      have hqi : (r : Int) % (s : Int) = 0 := by rw [← Int.natCast_emod, hq]; rfl
                      clear hq
                      go_wp2
                      clear hqi
                      simp only [List.toArray] at hr5
                      generalize hwn : wr.alloc (.cells #[.int .i64 ps, .int .i64 pa, .string pb, .string pz] 24) = wn at *
                      clear hwn
                      have hSn := hS.out.ext hEn
                      have hEw := hE.out.trans hEn
                      have hre := hSn.row (i := 2) rfl
                      have hb5 := Nat.le_trans hb hEn.size
                      have fe : ∀ u, (wplus wn u).cell? ⟨bE, 0, none⟩ = some (.pointer (some ⟨E 0, 0, none⟩)) := fun u => (hre.plus u).cell 0 (by show 0 < 2; decide)
                      have p0 : ∀ u, (wplus wn u).cell? ⟨wr.heap.size, 0, none⟩ = some (.int .i64 ps) := fun u => (hr5.plus u).cell 0 (by show 0 < 4; decide)
                      have p1 : ∀ u, (wplus wn u).cell? ⟨wr.heap.size, 1, none⟩ = some (.int .i64 pa) := fun u => (hr5.plus u).cell 1 (by show 1 < 4; decide)
                      have p2 : ∀ u, (wplus wn u).cell? ⟨wr.heap.size, 2, none⟩ = some (.string pb) := fun u => (hr5.plus u).cell 2 (by show 2 < 4; decide)
                      have p3 : ∀ u, (wplus wn u).cell? ⟨wr.heap.size, 3, none⟩ = some (.string pz) := fun u => (hr5.plus u).cell 3 (by show 3 < 4; decide)
                      have HIn := Lib.hid (fun W (e : Ext wn W) => inTE_any (hEw.trans e) (hSn.ext e) (i := 0) rfl ((htr.ext hEn).ext e) Hha2.out ⟨ps, pa, pb, pz⟩ Htk.out)
                      unfold Pkt.val Pkt.cells at HIn
                      clear hre
                      have hLI := HT1.out Hq.out
                      have HLI := Lib.hid hLI
                      have hl3 := Hha3.out
                      rw [hLI] at hl3
                      dsimp only at hl3
                      rw [List.length_append] at hl3
                      clear hLI
                      generalize LI.1.inn ⟨ps, pa, pb, pz⟩ = rI at *
                      refine wp_region_plan [6] (.step 0 .pure (.step 1 .pure (.step 2 .pure (.step 3 .pure (.step 4 .read (.step 5 .read (.step 6 (.eff true) (.step 7 .pure (.step 8 .pure (.step 9 .pure (.step 10 .pure (.step 11 .pure (.fin))))))))))))) (by kernel_rfl) (by kernel_rfl) (Ext.refl wn) ?_
                      simp only [pickOps, List.getD_cons_zero, List.getD_cons_succ]
                      repeat (first
                        | (refine pure_n rfl ?_; intro N hN; go_big_quiet_op; go_big_quiet_on)
                        | (refine read_n rfl ?_; intro N hN; go_big_quiet_op; go_big_quiet_on)
                        | (refine pure_g rfl rfl rfl rfl ?_; intro N hN; go_big_quiet_op; go_big_quiet_on)
                        | (refine read_g rfl rfl rfl rfl ?_; intro N hN; go_big_quiet_op; go_big_quiet_on)
                        | (refine skip_g rfl rfl rfl rfl ?_; simp only [Act.put, List.setIfInBounds_toArray, List.set_cons_zero, List.set_cons_succ]))
                      refine eff_n rfl ?_
                      intro N hN
                      go_big_op
                      refine (HIn.out _ (by repeat first | exact Ext.refl _ | refine Ext.drew ?_)).mono ?_
                      rintro e w7 ⟨q7, c7', rfl, ho7, hS7, hm7⟩
                      refine hN _ w7 w7 (fun h => by cases h) (Ext.refl _) ?_
                      repeat (first
                        | (refine pure_n rfl ?_; intro N hN; go_big_quiet_op; go_big_quiet_on)
                        | (refine read_n rfl ?_; intro N hN; go_big_quiet_op; go_big_quiet_on)
                        | (refine pure_g rfl rfl rfl rfl ?_; intro N hN; go_big_quiet_op; go_big_quiet_on)
                        | (refine read_g rfl rfl rfl rfl ?_; intro N hN; go_big_quiet_op; go_big_quiet_on)
                        | (refine skip_g rfl rfl rfl rfl ?_; simp only [Act.put, List.setIfInBounds_toArray, List.set_cons_zero, List.set_cons_succ]))
                      refine plan_nil ?_
                      have HE7 := Lib.hid hm7
                      have hb7 := hm7.size
                      have ho9 := hS7.own (i := 0 + 8) (n := (GA ++ LI.2).length) rfl
                      rw [HnG.out] at ho9
                      have d7 := (hS7.row (i := 5) rfl).cell 0 (by show 0 < 2; decide)
                      clear hm7 fe p0 p1 p2 p3 HIn hb5
                      go_wp2_with (at_builtin; go_loud (refine wpList_append_S rfl _ _ 44 rfl 0 9 (.string ByteArray.empty) 1 16 Tryd.underlying44 (by kernel_rfl) rfl (by decide) ho9 rfl (svals rI.2) rfl ho7.sl.src (oneCell_svals _) (by simp only [maxLen]; omega) (by omega) (Nat.zero_le _) ?_; intro v9 w9 ho9' hg9 hn9; obtain ⟨p9, c9, rfl, _⟩ := ho9'.form'; have hS9 := hS7.setOwn (i := 0 + 8) rfl hg9 ho9' hn9 hb7; have hr9 := hS9.row (i := 5) rfl; have z9 := hr9.frozen 0; have d9 := hr9.cell 0 (by show 0 < 2; decide); have hb9 := Nat.le_trans hb7 hg9.size; have hE9 := HE7.out.grown hg9 Hge.out))
                      have hSA := hS9.setRow (i := 5) rfl (grown_at w9 (bS + 1) 0 (.slice p9 (nG + rI.2.length) c9)) (hr9.set 0 (.slice p9 (nG + rI.2.length) c9)) hb9
                      have hle9 : ((GA ++ LI.2) ++ rI.2).length = nG + rI.2.length := by rw [List.length_append, HnG.out]
                      exact ⟨⟨i + 1, _, by omega, by go_num, Lib.hid (by rw [Hli1.out, HLI.out]; dsimp only; rw [← List.append_assoc]; unfold midT allT; rw [svals_append, hle9]; exact hSA), Lib.hid (hE9.grown (grown_at w9 (bS + 1) 0 (.slice p9 (nG + rI.2.length) c9)) (fun k e => by cases e; exact hgb))⟩, by simp [intOf]; omega⟩
                    · have hqi : ((r : Int) % (s : Int) == 0) = false := by rw [← Int.natCast_emod]; exact beq_eq_false_iff_ne.2 (fun h => hq (Int.ofNat_inj.1 h))
                      have Hq := Lib.hid hq
                      clear hq
                      go_wp2
                      exact ⟨⟨i + 1, _, by omega, by go_num, Lib.hid (by rw [Hli1.out, HK1.out Hq.out]; exact hS.out.ext hEn), Lib.hid (hE.out.trans hEn)⟩, by simp [intOf]; omega⟩
                  · have hmpos : 0 < m := by omega
                    obtain ⟨_, _, h1, _, _, h2⟩ := HI.out
                    obtain ⟨gi, oi, h3, _⟩ := h2 hmpos
                    cases h1; subst h3
                    clear h2
                    have hrs : 0 ≤ (r : Int) / (s : Int) ∧ (r : Int) / (s : Int) ≤ 1000 := by
                      rw [← Int.natCast_ediv]
                      have := Nat.div_le_self r s
                      generalize r / s = q at *
                      omega
                    have harg : (7 * ((r / s : Nat) : Int) + 3 * ps + ((1 : Nat) : Int)) = 7 * ((r : Int) / (s : Int)) + 3 * ps + 1 := by rw [Int.natCast_ediv]; simp
                    have hidx := pickN_lt (7 * ((r : Int) / (s : Int)) + 3 * ps + 1) (n := m) hmpos
                    have HPa := Lib.hid (pickLB_any (7 * ((r : Int) / (s : Int)) + 3 * ps + 1) m hmpos (by omega) ⟨by omega, by omega⟩)
                    have hwv : whenOf which s r 1 ps = pickN (y (pickN (7 * ((r : Int) / (s : Int)) + 3 * ps + 1) m)) s := by rw [HWp.out, if_neg hm0', harg]
                    generalize pickN (7 * ((r : Int) / (s : Int)) + 3 * ps + 1) m = ix at *
                    have HPb := Lib.hid (pickLB_any (y ix) s hspos (by omega) (Hy.out ix))
                    generalize pickN (y ix) s = wv at *
                    have hcy := Ints.cell (HI.out.ext (hE.out.trans hEn)) hidx
                    have HT1 := Lib.hid (HT.out wv hwv)
                    have HK1 := Lib.hid (HK.out wv hwv)
                    clear hwv HT HK HWp harg
                    go_wp2
                    simp only [List.toArray] at hr5
                    generalize hwn : wr.alloc (.cells #[.int .i64 ps, .int .i64 pa, .string pb, .string pz] 24) = wn at *
                    clear hwn
                    have hSn := hS.out.ext hEn
                    have hEw := hE.out.trans hEn
                    have hre := hSn.row (i := 2) rfl
                    have hb5 := Nat.le_trans hb hEn.size
                    have fe : ∀ u, (wplus wn u).cell? ⟨bE, 0, none⟩ = some (.pointer (some ⟨E 0, 0, none⟩)) := fun u => (hre.plus u).cell 0 (by show 0 < 2; decide)
                    have p0 : ∀ u, (wplus wn u).cell? ⟨wr.heap.size, 0, none⟩ = some (.int .i64 ps) := fun u => (hr5.plus u).cell 0 (by show 0 < 4; decide)
                    have p1 : ∀ u, (wplus wn u).cell? ⟨wr.heap.size, 1, none⟩ = some (.int .i64 pa) := fun u => (hr5.plus u).cell 1 (by show 1 < 4; decide)
                    have p2 : ∀ u, (wplus wn u).cell? ⟨wr.heap.size, 2, none⟩ = some (.string pb) := fun u => (hr5.plus u).cell 2 (by show 2 < 4; decide)
                    have p3 : ∀ u, (wplus wn u).cell? ⟨wr.heap.size, 3, none⟩ = some (.string pz) := fun u => (hr5.plus u).cell 3 (by show 3 < 4; decide)
                    have HIn := Lib.hid (fun W (e : Ext wn W) => inTE_any (hEw.trans e) (hSn.ext e) (i := 0) rfl ((htr.ext hEn).ext e) Hha2.out ⟨ps, pa, pb, pz⟩ Htk.out)
                    unfold Pkt.val Pkt.cells at HIn
                    clear hre
                    have fy : ∀ u, (wplus wn u).cell? ⟨gi, oi + ix, none⟩ = some (.int .i64 (y ix)) := fun u => (ext_wplus wn u).cell hcy
                    refine wp_region_plan [] (.step 0 .pure (.step 1 .pure (.step 2 .pure (.step 3 .pure (.step 4 .pure (.step 5 .pure (.step 6 .read (.step 7 .pure (.step 8 .pure (.step 9 .pure (.step 10 .pure (.step 11 .pure (.step 12 .pure (.step 16 .pure (.step 13 (.eff false) (.step 14 .pure (.step 15 .read (.step 17 (.eff false) (.step 18 .pure (.fin)))))))))))))))))))) (by kernel_rfl) (by kernel_rfl) (Ext.refl wn) ?_
                    simp only [pickOps, List.getD_cons_zero, List.getD_cons_succ]
                    repeat (first
                      | (refine pure_n rfl ?_; intro N hN; go_big_quiet_op; go_big_quiet_on)
                      | (refine read_n rfl ?_; intro N hN; go_big_quiet_op; go_big_quiet_on)
                      | (refine pure_g rfl rfl rfl rfl ?_; intro N hN; go_big_quiet_op; go_big_quiet_on)
                      | (refine read_g rfl rfl rfl rfl ?_; intro N hN; go_big_quiet_op; go_big_quiet_on)
                      | (refine skip_g rfl rfl rfl rfl ?_; simp only [Act.put, List.setIfInBounds_toArray, List.set_cons_zero, List.set_cons_succ]))
                    refine eff_n rfl ?_
                    intro N hN
                    go_big_op
                    refine (HPa.out _).mono ?_
                    rintro e wx ⟨rfl, hwx⟩
                    subst wx
                    refine hN _ wn _ (fun _ => Ext.refl _) (by repeat first | exact Ext.refl _ | refine Ext.drew ?_) ?_
                    repeat (first
                      | (refine pure_n rfl ?_; intro N hN; go_big_quiet_op; go_big_quiet_on)
                      | (refine read_n rfl ?_; intro N hN; go_big_quiet_op; go_big_quiet_on)
                      | (refine pure_g rfl rfl rfl rfl ?_; intro N hN; go_big_quiet_op; go_big_quiet_on)
                      | (refine read_g rfl rfl rfl rfl ?_; intro N hN; go_big_quiet_op; go_big_quiet_on)
                      | (refine skip_g rfl rfl rfl rfl ?_; simp only [Act.put, List.setIfInBounds_toArray, List.set_cons_zero, List.set_cons_succ]))
                    refine eff_n rfl ?_
                    intro N hN
                    go_big_op
                    refine (HPb.out _).mono ?_
                    rintro e wx ⟨rfl, hwx⟩
                    subst wx
                    refine hN _ wn _ (fun _ => Ext.refl _) (by repeat first | exact Ext.refl _ | refine Ext.drew ?_) ?_
                    repeat (first
                      | (refine pure_n rfl ?_; intro N hN; go_big_quiet_op; go_big_quiet_on)
                      | (refine read_n rfl ?_; intro N hN; go_big_quiet_op; go_big_quiet_on)
                      | (refine pure_g rfl rfl rfl rfl ?_; intro N hN; go_big_quiet_op; go_big_quiet_on)
                      | (refine read_g rfl rfl rfl rfl ?_; intro N hN; go_big_quiet_op; go_big_quiet_on)
                      | (refine skip_g rfl rfl rfl rfl ?_; simp only [Act.put, List.setIfInBounds_toArray, List.set_cons_zero, List.set_cons_succ]))
                    refine plan_nil ?_
                    clear fy hcy
                    by_cases hq : r % s = wv
                    · have Hq := Lib.hid hq
                      have hqi : (r : Int) % (s : Int) = (wv : Nat) := by rw [← Int.natCast_emod, hq]
                      clear hq
                      go_wp2
                      clear hqi
                      have hLI := HT1.out Hq.out
                      have HLI := Lib.hid hLI
                      have hl3 := Hha3.out
                      rw [hLI] at hl3
                      dsimp only at hl3
                      rw [List.length_append] at hl3
                      clear hLI
                      generalize LI.1.inn ⟨ps, pa, pb, pz⟩ = rI at *
                      refine wp_region_plan [6] (.step 0 .pure (.step 1 .pure (.step 2 .pure (.step 3 .pure (.step 4 .read (.step 5 .read (.step 6 (.eff true) (.step 7 .pure (.step 8 .pure (.step 9 .pure (.step 10 .pure (.step 11 .pure (.fin))))))))))))) (by kernel_rfl) (by kernel_rfl) ((Ext.refl wn).drew) ?_
                      simp only [pickOps, List.getD_cons_zero, List.getD_cons_succ]
                      repeat (first
                        | (refine pure_n rfl ?_; intro N hN; go_big_quiet_op; go_big_quiet_on)
                        | (refine read_n rfl ?_; intro N hN; go_big_quiet_op; go_big_quiet_on)
                        | (refine pure_g rfl rfl rfl rfl ?_; intro N hN; go_big_quiet_op; go_big_quiet_on)
                        | (refine read_g rfl rfl rfl rfl ?_; intro N hN; go_big_quiet_op; go_big_quiet_on)
                        | (refine skip_g rfl rfl rfl rfl ?_; simp only [Act.put, List.setIfInBounds_toArray, List.set_cons_zero, List.set_cons_succ]))
                      refine eff_n rfl ?_
                      intro N hN
                      go_big_op
                      refine (HIn.out _ (by repeat first | exact Ext.refl _ | refine Ext.drew ?_)).mono ?_
                      rintro e w7 ⟨q7, c7', rfl, ho7, hS7, hm7⟩
                      refine hN _ w7 w7 (fun h => by cases h) (Ext.refl _) ?_
                      repeat (first
                        | (refine pure_n rfl ?_; intro N hN; go_big_quiet_op; go_big_quiet_on)
                        | (refine read_n rfl ?_; intro N hN; go_big_quiet_op; go_big_quiet_on)
                        | (refine pure_g rfl rfl rfl rfl ?_; intro N hN; go_big_quiet_op; go_big_quiet_on)
                        | (refine read_g rfl rfl rfl rfl ?_; intro N hN; go_big_quiet_op; go_big_quiet_on)
                        | (refine skip_g rfl rfl rfl rfl ?_; simp only [Act.put, List.setIfInBounds_toArray, List.set_cons_zero, List.set_cons_succ]))
                      refine plan_nil ?_
                      have HE7 := Lib.hid hm7
                      have hb7 := hm7.size
                      have ho9 := hS7.own (i := 0 + 8) (n := (GA ++ LI.2).length) rfl
                      rw [HnG.out] at ho9
                      have d7 := (hS7.row (i := 5) rfl).cell 0 (by show 0 < 2; decide)
                      clear hm7 fe p0 p1 p2 p3 HIn hb5
                      go_wp2_with (at_builtin; go_loud (refine wpList_append_S rfl _ _ 44 rfl 0 9 (.string ByteArray.empty) 1 16 Tryd.underlying44 (by kernel_rfl) rfl (by decide) ho9 rfl (svals rI.2) rfl ho7.sl.src (oneCell_svals _) (by simp only [maxLen]; omega) (by omega) (Nat.zero_le _) ?_; intro v9 w9 ho9' hg9 hn9; obtain ⟨p9, c9, rfl, _⟩ := ho9'.form'; have hS9 := hS7.setOwn (i := 0 + 8) rfl hg9 ho9' hn9 hb7; have hr9 := hS9.row (i := 5) rfl; have z9 := hr9.frozen 0; have d9 := hr9.cell 0 (by show 0 < 2; decide); have hb9 := Nat.le_trans hb7 hg9.size; have hE9 := HE7.out.grown hg9 Hge.out))
                      have hSA := hS9.setRow (i := 5) rfl (grown_at w9 (bS + 1) 0 (.slice p9 (nG + rI.2.length) c9)) (hr9.set 0 (.slice p9 (nG + rI.2.length) c9)) hb9
                      have hle9 : ((GA ++ LI.2) ++ rI.2).length = nG + rI.2.length := by rw [List.length_append, HnG.out]
                      exact ⟨⟨i + 1, _, by omega, by go_num, Lib.hid (by rw [Hli1.out, HLI.out]; dsimp only; rw [← List.append_assoc]; unfold midT allT; rw [svals_append, hle9]; exact hSA), Lib.hid (hE9.grown (grown_at w9 (bS + 1) 0 (.slice p9 (nG + rI.2.length) c9)) (fun k e => by cases e; exact hgb))⟩, by simp [intOf]; omega⟩
                    · have hqi : ((r : Int) % (s : Int) == (wv : Nat)) = false := by rw [← Int.natCast_emod]; exact beq_eq_false_iff_ne.2 (fun h => hq (Int.ofNat_inj.1 h))
                      have Hq := Lib.hid hq
                      clear hq
                      go_wp2
                      exact ⟨⟨i + 1, _, by omega, by go_num, Lib.hid (by rw [Hli1.out, HK1.out Hq.out]; exact hSn.ext (by repeat first | exact Ext.refl _ | refine Ext.drew ?_)), Lib.hid (hEw.trans (by repeat first | exact Ext.refl _ | refine Ext.drew ?_))⟩, by simp [intOf]; omega⟩
                · have hi' : i = ob.length := by omega
                  subst hi'
                  have hS' : Hid (Sep wr w.heap.size (midT E bE (bE + 1) bS (bS + 1) m0 m1 A' B' s0 s1 g g1 (msgs 0 m0) (msgs 1 m1) GA' GB' (.slice p7 oa.length c7) (.slice p8 ob.length c8) oa ob bO)) := Lib.hid (by rw [HGG0.out]; have h9 := hS.out; rw [HLL0.out] at h9; exact h9)
                  clear hS
                  go_wp2
                  exact ⟨⟨1 + 1, _, _, by omega, by go_num, hS', hE⟩, by simp [intOf]⟩
            · have hS' : Hid (Sep wr w.heap.size (allT E bE (bE + 1) bS (bS + 1) m0 m1 (RM (r + 1) 0) (RM (r + 1) 1) s0 s1 g0 g1 (msgs 0 m0) (msgs 1 m1) (GR (r + 1) 0) (GR (r + 1) 1))) := Lib.hid (by rw [HRn0.out, HRn1.out, HGn0.out, HGn1.out]; exact hS.out.take 10)
              clear hS
              go_wp2
              exact ⟨⟨r + 1, _, _, by omega, by go_num, hS', hE⟩, by simp [intOf]; omega⟩
        · have hr' : r = rounds := by omega
          subst hr'
          have hf0 := HF0.out
          have hf1 := HF1.out
          have ht9 := ht.ext hE.out
          have o8 := hS.out.own (i := 8) rfl
          have o9 := hS.out.own (i := 9) rfl
          have o6 := hS.out.own (i := 6) rfl
          have o7 := hS.out.own (i := 7) rfl
          obtain ⟨E0, hE0⟩ := hS.out.endAt (i := 0) rfl
          obtain ⟨E1, hE1⟩ := hS.out.endAt (i := 1) rfl
          have q0 := (hS.out.row (i := 5) rfl).cell 0 (by show 0 < 2; decide)
          have q1 := (hS.out.row (i := 5) rfl).cell 1 (by show 1 < 2; decide)
          have q2 := (hS.out.row (i := 4) rfl).cell 0 (by show 0 < 2; decide)
          have q3 := (hS.out.row (i := 4) rfl).cell 1 (by show 1 < 2; decide)
          have hl0 : (msgs 0 m0).length ≤ 9 := by rw [msgs_length]; omega
          have hl1 : (msgs 1 m1).length ≤ 9 := by rw [msgs_length]; omega
          have h81 : GR r 0 = msgs 1 m1 := hf0.1
          have h90 : GR r 1 = msgs 0 m0 := hf1.1
          rw [h81] at o8
          rw [h90] at o9
          have hs1 := strings_any (msgs 1 m1) (msgs 1 m1) o8.sl o7.sl (by omega) (by omega)
          rw [decide_eq_true rfl] at hs1
          have HS1 := Lib.hid hs1
          have hs2 := fun W (e : Ext wr W) => strings_any (msgs 0 m0) (msgs 0 m0) (o9.ext e).sl (o6.ext e).sl (by omega) (by omega)
          rw [decide_eq_true rfl] at hs2
          have HS2 := Lib.hid hs2
          have QA := Lib.hid (fun W (e : Ext wr W) => waiting_any (hE0.ext e))
          have QB := Lib.hid (fun W (e : Ext wr W) => waiting_any (hE1.ext e))
          have hz0 : ((RM r 0).sent.length : Int) - ((RM r 0).acked : Int) = 0 := by have := hf0.2; omega
          have hz1 : ((RM r 1).sent.length : Int) - ((RM r 1).acked : Int) = 0 := by have := hf1.2; omega
          rw [hz0] at QA
          rw [hz1] at QB
          obtain ⟨pa, ca, rfl, _⟩ := o8.form'
          obtain ⟨pb, cb, rfl, _⟩ := o9.form'
          obtain ⟨pc, cc, rfl, _⟩ := o6.form'
          obtain ⟨pd, cd, rfl, _⟩ := o7.form'
          clear hz0 hz1 hf0 hf1 h81 h90 o6 o7 o8 o9 hs1 hs2
          go_wp2_with (first
            | (go_at_call 28; ((with_reducible refine HS1.out.mono ?_); rintro e wa ⟨rfl, hEa⟩; have q4 := hEa.cell q0; have q5 := hEa.cell q1; have q6 := hEa.cell q2; have q7 := hEa.cell q3))
            | (go_at_call 28; ((with_reducible refine (HS2.out _ hEa).mono ?_); rintro e wb ⟨rfl, hEb⟩; have hX := hEa.trans hEb))
            | (go_at_call 33; ((first | with_reducible refine (QA.out _ hX).mono ?_ | with_reducible refine (QB.out _ hX).mono ?_); rintro e w7 ⟨rfl, hE7⟩; have hX := hX.trans hE7; clear hE7)))
          all_goals first
            | (go_ret; exact ⟨by kernel_rfl, hE.out.trans hX⟩)
            | trace_state
end Go.Proofs.YtjamakapkpkfeaaDoor
