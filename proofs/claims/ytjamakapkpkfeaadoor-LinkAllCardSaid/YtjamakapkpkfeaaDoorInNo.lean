/- Contract of the method In for a packet that is refused. -/
import Derived.Test.YtjamakapkpkfeaaDoorSteps
import Derived.Test.YtjamakapkpkfeaaDoorInn
namespace Go.Proofs.YtjamakapkpkfeaaDoor
open Go.RowKit Go.Shelf Sha

set_option maxRecDepth 100000 in
set_option maxHeartbeats 4000000 in
theorem in_none {w : World} {fp : Nat → Prop} {E : Nat} {L : Lk} (h : EndAt w fp E L) (ht : Tab w) (p : Pkt) (hp : ¬ L.Takes p) :
    Calls Tryd.prog 26 #[.pointer (some ⟨E, 0, none⟩), p.val] w fun e w' => e = .returned (.tuple #[.slice none 0 0, .int .i64 410]) ∧ Ext w w' := by
  obtain ⟨v, M, h⟩ := h
  obtain ⟨p0, cap, rfl, _⟩ := h.own.form'
  have Hp := Lib.hid hp
  clear hp
  have HG := Lib.hid (genuine_any L.other p)
  have Hd : Hid ((decide (Genuine L.other p) = true ∧ (L.sent.length : Int) < p.ack) ∨ decide (Genuine L.other p) = false) := Lib.hid (by
    by_cases hg : Genuine L.other p
    · rcases Int.lt_or_le (L.sent.length : Int) p.ack with h | h
      · exact .inl ⟨decide_eq_true hg, h⟩
      · exact absurd ⟨hg, h⟩ Hp.out
    · exact .inr (decide_eq_false hg))
  clear Hp
  obtain ⟨ser, ack, body, sl⟩ := p
  have hr := (Row.new w 24 [.int .i64 ser, .int .i64 ack, .string body, .string sl])
  have hE0 := (Ext.refl w).alloc (.cells [.int .i64 ser, .int .i64 ack, .string body, .string sl].toArray 24)
  have hrE := h.row.ext hE0
  have hl100 := h.ok.sent
  clear h
  go_enter Tryd.func26, Tryd.ntmps26
  unfold Pkt.val Pkt.cells at *
  go_wp2
  generalize w.alloc (.cells #[.int .i64 ser, .int .i64 ack, .string body, .string sl] 24) = w1 at *
  have g0 : ∀ u, (wplus w1 u).cell? ⟨w.heap.size, 0, none⟩ = some (.int .i64 ser) := fun u => (hr.plus u).cell 0 (by show 0 < 4; decide)
  have g1 : ∀ u, (wplus w1 u).cell? ⟨w.heap.size, 1, none⟩ = some (.int .i64 ack) := fun u => (hr.plus u).cell 1 (by show 1 < 4; decide)
  have g2 : ∀ u, (wplus w1 u).cell? ⟨w.heap.size, 2, none⟩ = some (.string body) := fun u => (hr.plus u).cell 2 (by show 2 < 4; decide)
  have g3 : ∀ u, (wplus w1 u).cell? ⟨w.heap.size, 3, none⟩ = some (.string sl) := fun u => (hr.plus u).cell 3 (by show 3 < 4; decide)
  have f1 : ∀ u, (wplus w1 u).cell? ⟨E, 1, none⟩ = some (.string L.other) := fun u => (hrE.plus u).cell 1 (by show 1 < 6; decide)
  have f2 : ∀ u, (wplus w1 u).cell? ⟨E, 2, none⟩ = some (.slice p0 L.sent.length cap) := fun u => (hrE.plus u).cell 2 (by show 2 < 6; decide)
  refine wp_region_plan [] (.step 0 .pure (.step 1 .pure (.step 2 .pure (.step 3 .read (.step 4 .read (.step 5 (.eff false) (.step 6 .pure (.step 7 .pure (.step 8 .pure (.step 9 .read (.step 10 .pure (.step 11 .pure (.step 12 .pure (.step 13 .read (.step 14 .pure (.step 15 .pure (.step 16 .pure (.fin)))))))))))))))))) (by kernel_rfl) (by kernel_rfl) (Ext.refl w1) ?_
  simp only [pickOps, List.getD_cons_zero, List.getD_cons_succ]
  repeat (first
    | (refine pure_n rfl ?_; intro N hN; go_big_quiet_op; go_big_quiet_on)
    | (refine read_n rfl ?_; intro N hN; go_big_quiet_op; go_big_quiet_on)
    | (refine pure_g rfl rfl rfl rfl ?_; intro N hN; go_big_quiet_op; go_big_quiet_on)
    | (refine read_g rfl rfl rfl rfl ?_; intro N hN; go_big_quiet_op; go_big_quiet_on)
    | (refine skip_g rfl rfl rfl rfl ?_; simp only [Act.put, List.setIfInBounds_toArray, List.set_cons_zero, List.set_cons_succ]))
  refine eff_n rfl ?_
  intro N hN
  go_big_op
  refine (HG.out w1.drew (ht.ext hE0.drew)).mono ?_
  rintro e w2 ⟨rfl, hE2⟩
  have hE3 : Ext w1 w2 := (Ext.refl w1).drew.trans hE2
  rcases Hd.out with ⟨hg, hacks⟩ | hg
  · rw [hg]
    clear hg
    refine hN _ w1 w2 (fun _ => Ext.refl _) hE3 ?_
    repeat (first
      | (refine pure_n rfl ?_; intro N hN; go_big_quiet_op; go_big_quiet_on)
      | (refine read_n rfl ?_; intro N hN; go_big_quiet_op; go_big_quiet_on)
      | (refine pure_g rfl rfl rfl rfl ?_; intro N hN; go_big_quiet_op; go_big_quiet_on)
      | (refine read_g rfl rfl rfl rfl ?_; intro N hN; go_big_quiet_op; go_big_quiet_on)
      | (refine skip_g rfl rfl rfl rfl ?_; simp only [Act.put, List.setIfInBounds_toArray, List.set_cons_zero, List.set_cons_succ]))
    refine plan_nil ?_
    go_wp2
    go_ret2
    exact ⟨by kernel_rfl, hE0.trans hE3⟩
  · rw [hg]
    clear hg
    refine hN _ w1 w2 (fun _ => Ext.refl _) hE3 ?_
    repeat (first
      | (refine pure_n rfl ?_; intro N hN; go_big_quiet_op; go_big_quiet_on)
      | (refine read_n rfl ?_; intro N hN; go_big_quiet_op; go_big_quiet_on)
      | (refine pure_g rfl rfl rfl rfl ?_; intro N hN; go_big_quiet_op; go_big_quiet_on)
      | (refine read_g rfl rfl rfl rfl ?_; intro N hN; go_big_quiet_op; go_big_quiet_on)
      | (refine skip_g rfl rfl rfl rfl ?_; simp only [Act.put, List.setIfInBounds_toArray, List.set_cons_zero, List.set_cons_succ]))
    refine plan_nil ?_
    go_wp2
    go_ret2
    exact ⟨by kernel_rfl, hE0.trans hE3⟩
end Go.Proofs.YtjamakapkpkfeaaDoor
