/- Who takes a packet for genuine: contracts of both texts. -/
import Derived.Test.YtjamakapkpkfeaaDoorSeal
namespace Go.Proofs.YtjamakapkpkfeaaDoor
open Go.RowKit Go.Shelf Sha

namespace Sha
/-- A packet that is formed. -/
def Formed (p : Pkt) : Prop := (0 ≤ p.ser ∧ p.ser ≤ 100) ∧ (0 ≤ p.ack ∧ p.ack ≤ 100) ∧ p.body.size ≤ 200 ∧ (0 < p.ser ∨ p.body.toList = []) ∧ p.sl.size = 32
instance (p : Pkt) : Decidable (Formed p) := by unfold Formed; infer_instance
def Genuine (key : ByteArray) (p : Pkt) : Prop := key.size = 32 ∧ Formed p ∧ p.sl = sealOf key p
instance (key : ByteArray) (p : Pkt) : Decidable (Genuine key p) := by unfold Genuine; infer_instance
end Sha

theorem str_eq {a b : ByteArray} : a.toList = b.toList ↔ a = b := by
  rw [Lib.toList_data, Lib.toList_data]
  exact ⟨fun h => ByteArray.ext (Array.toList_inj.1 h), fun h => by rw [h]⟩
theorem str_beq (a b : ByteArray) : (a.toList == b.toList) = decide (a = b) := by
  rw [Bool.eq_iff_iff, beq_iff_eq, decide_eq_true_iff, str_eq]

set_option maxHeartbeats 1000000 in
theorem isIn_any (n a b : Int) (w : World) : Calls Tryd.prog 49 #[.int .i64 n, .int .i64 a, .int .i64 b] w fun e w' => e = .returned (.bool (decide (a ≤ n ∧ n ≤ b))) ∧ w' = w := by
  go_enter Tryd.func49, Tryd.ntmps49
  go_wp2
  all_goals go_ret
  all_goals refine ⟨?_, rfl⟩
  all_goals (show Ending.returned (Value.bool _) = _; congr 2; simp [*] <;> omega)
set_option maxHeartbeats 1000000 in
theorem in_any (n a b : Int) (w : World) : Calls Tryd.prog 61 #[.int .i64 n, .int .i64 a, .int .i64 b] w fun e w' => e = .returned (.bool (decide (a ≤ n ∧ n ≤ b))) ∧ w' = w := by
  go_enter Tryd.func61, Tryd.ntmps61
  go_wp2
  all_goals go_ret
  all_goals refine ⟨?_, rfl⟩
  all_goals (show Ending.returned (Value.bool _) = _; congr 2; simp [*] <;> omega)
set_option maxHeartbeats 1000000 in
theorem isKey_any (s : ByteArray) (w : World) : Calls Tryd.prog 50 #[.string s] w fun e w' => e = .returned (.bool (decide (s.size = 32))) ∧ w' = w := by
  go_enter Tryd.func50, Tryd.ntmps50
  go_wp2
  go_ret
  refine ⟨?_, rfl⟩
  show Ending.returned (Value.bool _) = _; congr 2; rw [Bool.eq_iff_iff]; simp; omega
set_option maxRecDepth 100000 in
set_option maxHeartbeats 1000000 in
theorem formed_any (p : Pkt) (w : World) : Calls Tryd.prog 51 #[p.val] w fun e w' => e = .returned (.bool (decide (Formed p))) ∧ Ext w w' := by
  go_enter Tryd.func51, Tryd.ntmps51
  unfold Pkt.val Pkt.cells
  go_wp2_with (go_at_call 61; refine (in_any _ _ _ _).mono ?_; rintro e w1 ⟨rfl, hw⟩; subst w1)
  all_goals go_ret
  all_goals refine ⟨?_, (Ext.refl w).alloc _⟩
  all_goals (show Ending.returned (Value.bool _) = _; congr 2; rw [Bool.eq_iff_iff]; simp [Formed])
  all_goals grind

set_option maxRecDepth 100000 in
set_option maxHeartbeats 1000000 in
theorem genuine2_any (key : ByteArray) (p : Pkt) (w : World) : Calls Tryd.prog 30 #[.string key, p.val] w fun e w' => e = .returned (.bool (decide (Genuine key p))) ∧ Ext w w' := by
  go_enter Tryd.func30, Tryd.ntmps30
  unfold Pkt.val Pkt.cells
  have hr := Row.new w 24 [.int .i64 p.ser, .int .i64 p.ack, .string p.body, .string p.sl]
  have hE := (Ext.refl w).alloc (.cells [.int .i64 p.ser, .int .i64 p.ack, .string p.body, .string p.sl].toArray 24)
  go_wp2
  generalize w.alloc (.cells #[.int .i64 p.ser, .int .i64 p.ack, .string p.body, .string p.sl] 24) = w1 at *
  have HCu := fun u => (hr.plus u).cell
  have f0 : ∀ u, (wplus w1 u).cell? ⟨w.heap.size, 0, none⟩ = some (.int .i64 p.ser) := fun u => HCu u 0 (by show 0 < 4; decide)
  have f1 : ∀ u, (wplus w1 u).cell? ⟨w.heap.size, 1, none⟩ = some (.int .i64 p.ack) := fun u => HCu u 1 (by show 1 < 4; decide)
  have f2 : ∀ u, (wplus w1 u).cell? ⟨w.heap.size, 2, none⟩ = some (.string p.body) := fun u => HCu u 2 (by show 2 < 4; decide)
  have f3 : ∀ u, (wplus w1 u).cell? ⟨w.heap.size, 3, none⟩ = some (.string p.sl) := fun u => HCu u 3 (by show 3 < 4; decide)
  clear HCu
  by_cases hk : key.size = 32
  · have hk' : (key.size : Int) = 32 := by omega
    refine wp_region_plan [] (.step 0 .pure (.step 1 .pure (.step 2 .pure (.step 3 .pure (.step 4 .read (.step 5 (.eff false) (.step 6 .pure (.step 7 .pure (.step 8 .pure (.step 9 .read (.step 10 .pure (.step 11 .read (.step 12 (.eff false) (.step 13 .pure (.step 14 .pure (.step 15 .pure (.fin))))))))))))))))) (by kernel_rfl) (by kernel_rfl) (Ext.refl w1) ?_
    simp only [pickOps, List.getD_cons_zero, List.getD_cons_succ]
    repeat (first
      | (refine plan_pure (by rfl) ?_; intro N hN; go_big_quiet_op; go_big_quiet_on)
      | (refine plan_read (by rfl) ?_; intro N hN; go_big_quiet_op; go_big_quiet_on)
      | (refine plan_skip (by rfl) ?_; simp only [Act.put, List.setIfInBounds_toArray, List.set_cons_zero, List.set_cons_succ]))
    refine plan_eff (by rfl) ?_
    intro N hN
    go_big_op
    refine (formed_any p w1.drew).mono ?_
    rintro e w2 ⟨rfl, hE2⟩
    have hE3 : Ext w1 w2 := (Ext.refl w1).drew.trans hE2
    by_cases hf : Formed p
    · rw [decide_eq_true hf]
      refine hN _ w1 w2 (fun _ => Ext.refl _) hE3 ?_
      repeat (first
        | (refine plan_pure (by rfl) ?_; intro N hN; go_big_quiet_op; go_big_quiet_on)
        | (refine plan_read (by rfl) ?_; intro N hN; go_big_quiet_op; go_big_quiet_on)
        | (refine plan_skip (by rfl) ?_; simp only [Act.put, List.setIfInBounds_toArray, List.set_cons_zero, List.set_cons_succ]))
      refine plan_eff (by rfl) ?_
      intro N hN
      go_big_op
      refine (seal2_any key (by omega) p hf.1.1 (by have := hf.1.2; omega) hf.2.1.1 (by have := hf.2.1.2; omega) (by have := hf.2.2.1; omega) w2).mono ?_
      rintro e w4 ⟨rfl, hE4⟩
      refine hN _ w1 w4 (fun _ => Ext.refl _) (hE3.trans hE4) ?_
      repeat (first
        | (refine plan_pure (by rfl) ?_; intro N hN; go_big_quiet_op; go_big_quiet_on)
        | (refine plan_read (by rfl) ?_; intro N hN; go_big_quiet_op; go_big_quiet_on)
        | (refine plan_skip (by rfl) ?_; simp only [Act.put, List.setIfInBounds_toArray, List.set_cons_zero, List.set_cons_succ]))
      refine plan_nil ?_
      go_wp2
      go_ret
      refine ⟨?_, (hE.trans hE3).trans hE4⟩
      show Ending.returned (Value.bool (p.sl.toList == (sealOf key p).toList)) = _
      rw [str_beq, decide_eq_decide.2 (show p.sl = sealOf key p ↔ Genuine key p from ⟨fun h => ⟨hk, hf, h⟩, fun h => h.2.2⟩)]
    · rw [decide_eq_false hf]
      refine hN _ w1 w2 (fun _ => Ext.refl _) hE3 ?_
      repeat (first
        | (refine plan_pure (by rfl) ?_; intro N hN; go_big_quiet_op; go_big_quiet_on)
        | (refine plan_read (by rfl) ?_; intro N hN; go_big_quiet_op; go_big_quiet_on)
        | (refine plan_skip (by rfl) ?_; simp only [Act.put, List.setIfInBounds_toArray, List.set_cons_zero, List.set_cons_succ]))
      refine plan_nil ?_
      go_wp2
      go_ret
      refine ⟨?_, hE.trans hE3⟩
      rw [decide_eq_false (fun h : Genuine key p => hf h.2.1)]
      rfl
  · have hk' : ((key.size : Int) == 32) = false := by simp; omega
    refine wp_region_plan [] (.step 0 .pure (.step 1 .pure (.step 2 .pure (.step 3 .pure (.step 4 .read (.step 5 (.eff false) (.step 6 .pure (.step 7 .pure (.step 8 .pure (.step 9 .read (.step 10 .pure (.step 11 .read (.step 12 (.eff false) (.step 13 .pure (.step 14 .pure (.step 15 .pure (.fin))))))))))))))))) (by kernel_rfl) (by kernel_rfl) (Ext.refl w1) ?_
    simp only [pickOps, List.getD_cons_zero, List.getD_cons_succ]
    repeat (first
      | (refine plan_pure (by rfl) ?_; intro N hN; go_big_quiet_op; go_big_quiet_on)
      | (refine plan_read (by rfl) ?_; intro N hN; go_big_quiet_op; go_big_quiet_on)
      | (refine plan_skip (by rfl) ?_; simp only [Act.put, List.setIfInBounds_toArray, List.set_cons_zero, List.set_cons_succ]))
    refine plan_nil ?_
    go_wp2
    go_ret
    refine ⟨?_, hE.drew⟩
    rw [decide_eq_false (fun h : Genuine key p => hk h.1)]
    rfl

set_option maxRecDepth 100000 in
set_option maxHeartbeats 1000000 in
theorem genuine_any (key : ByteArray) (p : Pkt) (w : World) (ht : Tab w) : Calls Tryd.prog 29 #[.string key, p.val] w fun e w' => e = .returned (.bool (decide (Genuine key p))) ∧ Ext w w' := by
  obtain ⟨ser, ack, body, sl⟩ := p
  rcases Classical.em (ser = 0) with rfl | h0
  · go_enter Tryd.func29, Tryd.ntmps29
    unfold Pkt.val Pkt.cells
    have hr := Row.new w 24 [.int .i64 0, .int .i64 ack, .string body, .string sl]
    have hE := (Ext.refl w).alloc (.cells [.int .i64 0, .int .i64 ack, .string body, .string sl].toArray 24)
    go_wp2_with (first
      | (go_at_call 50; go_loud (refine (isKey_any _ _).mono ?_; rintro e w1 ⟨rfl, hw⟩; subst w1))
      | (go_at_call 49; go_loud (refine (isIn_any _ _ _ _).mono ?_; rintro e w1 ⟨rfl, hw⟩; subst w1)))
    any_goals (go_ret; refine ⟨?_, hE⟩; show Ending.returned (Value.bool false) = _; refine congrArg (fun b => Ending.returned (Value.bool b)) (decide_eq_false (fun h => ?_)).symm; obtain ⟨g1, ⟨⟨g2, g3⟩, ⟨g4, g5⟩, g6, g7, g8⟩, g9⟩ := h; simp only at g2 g3 g4 g5 g6 g7 g8; (first | omega | grind))
    generalize w.alloc (.cells #[.int .i64 0, .int .i64 ack, .string body, .string sl] 24) = w1 at *
    have HCu := fun u => (hr.plus u).cell
    have f0 : ∀ u, (wplus w1 u).cell? ⟨w.heap.size, 0, none⟩ = some (.int .i64 0) := fun u => HCu u 0 (by show 0 < 4; decide)
    have f1 : ∀ u, (wplus w1 u).cell? ⟨w.heap.size, 1, none⟩ = some (.int .i64 ack) := fun u => HCu u 1 (by show 1 < 4; decide)
    have f2 : ∀ u, (wplus w1 u).cell? ⟨w.heap.size, 2, none⟩ = some (.string body) := fun u => HCu u 2 (by show 2 < 4; decide)
    have f3 : ∀ u, (wplus w1 u).cell? ⟨w.heap.size, 3, none⟩ = some (.string sl) := fun u => HCu u 3 (by show 3 < 4; decide)
    clear HCu
    have hf : Formed ⟨0, ack, body, sl⟩ := ⟨by dsimp only; omega, by dsimp only; omega, by dsimp only; omega, by dsimp only; grind, by assumption⟩
    have hk : key.size = 32 := by assumption
    refine wp_region_plan [] (.step 0 .pure (.step 1 .read (.step 2 .pure (.step 3 .read (.step 4 (.eff false) (.step 5 .pure (.step 6 .pure (.fin)))))))) (by kernel_rfl) (by kernel_rfl) (Ext.refl w1) ?_
    simp only [pickOps, List.getD_cons_zero, List.getD_cons_succ]
    repeat (first
      | (refine plan_pure (by rfl) ?_; intro N hN; go_big_quiet_op; go_big_quiet_on)
      | (refine plan_read (by rfl) ?_; intro N hN; go_big_quiet_op; go_big_quiet_on)
      | (refine plan_skip (by rfl) ?_; simp only [Act.put, List.setIfInBounds_toArray, List.set_cons_zero, List.set_cons_succ]))
    refine plan_eff (by rfl) ?_
    intro N hN
    go_big_op
    refine (seal_any key (by omega) ⟨0, ack, body, sl⟩ hf.1.1 (by have := hf.1.2; omega) hf.2.1.1 (by have := hf.2.1.2; omega) (by have := hf.2.2.1; omega) w1.drew (ht.ext hE.drew)).mono ?_
    rintro e w4 ⟨rfl, hE4⟩
    refine hN _ w1 w4 (fun _ => Ext.refl _) ((Ext.refl w1).drew.trans hE4) ?_
    repeat (first
      | (refine plan_pure (by rfl) ?_; intro N hN; go_big_quiet_op; go_big_quiet_on)
      | (refine plan_read (by rfl) ?_; intro N hN; go_big_quiet_op; go_big_quiet_on)
      | (refine plan_skip (by rfl) ?_; simp only [Act.put, List.setIfInBounds_toArray, List.set_cons_zero, List.set_cons_succ]))
    refine plan_nil ?_
    go_wp2
    go_ret
    refine ⟨?_, hE.trans ((Ext.refl w1).drew.trans hE4)⟩
    show Ending.returned (Value.bool (sl.toList == (sealOf key ⟨0, ack, body, sl⟩).toList)) = _
    rw [str_beq, decide_eq_decide.2 (show sl = sealOf key ⟨0, ack, body, sl⟩ ↔ Genuine key ⟨0, ack, body, sl⟩ from ⟨fun h => ⟨hk, hf, h⟩, fun h => h.2.2⟩)]
  · go_enter Tryd.func29, Tryd.ntmps29
    unfold Pkt.val Pkt.cells
    have hr := Row.new w 24 [.int .i64 ser, .int .i64 ack, .string body, .string sl]
    have hE := (Ext.refl w).alloc (.cells [.int .i64 ser, .int .i64 ack, .string body, .string sl].toArray 24)
    go_wp2_with (first
      | (go_at_call 50; go_loud (refine (isKey_any _ _).mono ?_; rintro e w1 ⟨rfl, hw⟩; subst w1))
      | (go_at_call 49; go_loud (refine (isIn_any _ _ _ _).mono ?_; rintro e w1 ⟨rfl, hw⟩; subst w1)))
    any_goals (go_ret; refine ⟨?_, hE⟩; show Ending.returned (Value.bool false) = _; refine congrArg (fun b => Ending.returned (Value.bool b)) (decide_eq_false (fun h => ?_)).symm; obtain ⟨g1, ⟨⟨g2, g3⟩, ⟨g4, g5⟩, g6, g7, g8⟩, g9⟩ := h; simp only at g2 g3 g4 g5 g6 g7 g8; (first | omega | grind))
    generalize w.alloc (.cells #[.int .i64 ser, .int .i64 ack, .string body, .string sl] 24) = w1 at *
    have HCu := fun u => (hr.plus u).cell
    have f0 : ∀ u, (wplus w1 u).cell? ⟨w.heap.size, 0, none⟩ = some (.int .i64 ser) := fun u => HCu u 0 (by show 0 < 4; decide)
    have f1 : ∀ u, (wplus w1 u).cell? ⟨w.heap.size, 1, none⟩ = some (.int .i64 ack) := fun u => HCu u 1 (by show 1 < 4; decide)
    have f2 : ∀ u, (wplus w1 u).cell? ⟨w.heap.size, 2, none⟩ = some (.string body) := fun u => HCu u 2 (by show 2 < 4; decide)
    have f3 : ∀ u, (wplus w1 u).cell? ⟨w.heap.size, 3, none⟩ = some (.string sl) := fun u => HCu u 3 (by show 3 < 4; decide)
    clear HCu
    have hf : Formed ⟨ser, ack, body, sl⟩ := ⟨by dsimp only; omega, by dsimp only; omega, by dsimp only; omega, by dsimp only; grind, by assumption⟩
    have hk : key.size = 32 := by assumption
    refine wp_region_plan [] (.step 0 .pure (.step 1 .read (.step 2 .pure (.step 3 .read (.step 4 (.eff false) (.step 5 .pure (.step 6 .pure (.fin)))))))) (by kernel_rfl) (by kernel_rfl) (Ext.refl w1) ?_
    simp only [pickOps, List.getD_cons_zero, List.getD_cons_succ]
    repeat (first
      | (refine plan_pure (by rfl) ?_; intro N hN; go_big_quiet_op; go_big_quiet_on)
      | (refine plan_read (by rfl) ?_; intro N hN; go_big_quiet_op; go_big_quiet_on)
      | (refine plan_skip (by rfl) ?_; simp only [Act.put, List.setIfInBounds_toArray, List.set_cons_zero, List.set_cons_succ]))
    refine plan_eff (by rfl) ?_
    intro N hN
    go_big_op
    refine (seal_any key (by omega) ⟨ser, ack, body, sl⟩ hf.1.1 (by have := hf.1.2; omega) hf.2.1.1 (by have := hf.2.1.2; omega) (by have := hf.2.2.1; omega) w1.drew (ht.ext hE.drew)).mono ?_
    rintro e w4 ⟨rfl, hE4⟩
    refine hN _ w1 w4 (fun _ => Ext.refl _) ((Ext.refl w1).drew.trans hE4) ?_
    repeat (first
      | (refine plan_pure (by rfl) ?_; intro N hN; go_big_quiet_op; go_big_quiet_on)
      | (refine plan_read (by rfl) ?_; intro N hN; go_big_quiet_op; go_big_quiet_on)
      | (refine plan_skip (by rfl) ?_; simp only [Act.put, List.setIfInBounds_toArray, List.set_cons_zero, List.set_cons_succ]))
    refine plan_nil ?_
    go_wp2
    go_ret
    refine ⟨?_, hE.trans ((Ext.refl w1).drew.trans hE4)⟩
    show Ending.returned (Value.bool (sl.toList == (sealOf key ⟨ser, ack, body, sl⟩).toList)) = _
    rw [str_beq, decide_eq_decide.2 (show sl = sealOf key ⟨ser, ack, body, sl⟩ ↔ Genuine key ⟨ser, ack, body, sl⟩ from ⟨fun h => ⟨hk, hf, h⟩, fun h => h.2.2⟩)]
end Go.Proofs.YtjamakapkpkfeaaDoor
