/- Contract of the method In: what becomes of an end. -/
import Derived.Test.YtjamakapkpkfeaaDoorCmp
import Derived.Test.YtjamakapkpkfeaaDoorSteps
import Derived.Test.YtjamakapkpkfeaaDoorInn
namespace Go.Proofs.YtjamakapkpkfeaaDoor
open Go.RowKit Go.Shelf Sha

theorem grown_at (w : World) (b i : Nat) (v : Value) : w.grownBy (w.setCell ⟨b, i, none⟩ v) (some b) :=
  grown_setCell (grown_none (Ext.refl w) |> fun g => ⟨g.os, g.tape, g.output, g.size, fun _ _ _ => rfl⟩) _ _
theorem grown_und {W W' : World} {r : Option Nat} (h : W.drew.grownBy W' r) : W.grownBy W' r := ⟨h.os, h.tape, h.output, h.size, h.block⟩
theorem EndAt'.setAcked {w : World} {fp : Nat → Prop} {E : Nat} {L : Lk} {v : Value} {M : Nat} (h : EndAt' w fp E L v M) (a : Nat) (ha : a ≤ L.sent.length) :
    EndAt' (w.setCell ⟨E, 3, none⟩ (.int .i64 (a : Nat))) fp E { L with acked := a } v M ∧ Mod fp w (w.setCell ⟨E, 3, none⟩ (.int .i64 (a : Nat))) := by
  have hg := grown_at w E 3 (.int .i64 (a : Nat))
  have hm : Mod fp w (w.setCell ⟨E, 3, none⟩ (.int .i64 (a : Nat))) := (Mod.refl fp w).grown hg (fun k hk => .inl (by cases hk; exact h.fpE))
  exact ⟨⟨⟨h.ok.key, h.ok.other, h.ok.sent, h.ok.body, ha, h.ok.got, h.ok.early, h.ok.ins⟩, h.row.set 3 _, h.own.kept hg (fun k hk e => (h.neV k hk).1 (Option.some.inj e).symm), h.map.kept hg (fun e => h.neM (Option.some.inj e).symm), h.fpE, h.fpM, h.fpV, h.neM, h.neV,
    fun k hk => Nat.lt_of_lt_of_le (h.low k hk) hm.size⟩, hm⟩
theorem EndAt'.mapped {w w' : World} {fp : Nat → Prop} {E : Nat} {L L' : Lk} {v : Value} {M : Nat} (h : EndAt' w fp E L v M) (hg : w.grownBy w' (some M)) (hm : Mp w' M L'.ins L'.early) (hok : L'.Ok)
    (hk : L'.key = L.key) (ho : L'.other = L.other) (hs : L'.sent = L.sent) (ha : L'.acked = L.acked) (hgt : L'.got = L.got) : EndAt' w' fp E L' v M ∧ Mod fp w w' := by
  have hmd : Mod fp w w' := (Mod.refl fp w).grown hg (fun k hk => .inl (by cases hk; exact h.fpM))
  refine ⟨⟨hok, ?_, ?_, hm, h.fpE, h.fpM, h.fpV, h.neM, h.neV, fun k hk => Nat.lt_of_lt_of_le (h.low k hk) hmd.size⟩, hmd⟩
  · have := h.row.kept hg (fun e => h.neM (Option.some.inj e))
    unfold Lk.cells at *
    rw [hk, ho, ha, hgt]; exact this
  · rw [hs]; exact h.own.kept hg (fun k hk e => (h.neV k hk).2 (Option.some.inj e).symm)
theorem EndAt'.stepped {w w' : World} {fp : Nat → Prop} {E : Nat} {L : Lk} {v : Value} {M : Nat} (h : EndAt' w fp E L v M) {s : ByteArray} (hs : L.early ((L.got : Int) + 1) = some s)
    (hg : (w.setCell ⟨E, 4, none⟩ (.int .i64 ((L.got : Int) + 1))).grownBy w' (some M)) (hm : Mp w' M L.ins (fun y => if y = (L.got : Int) + 1 then none else L.early y)) :
    EndAt' w' fp E L.step v M ∧ Mod fp w w' := by
  have hg1 := grown_at w E 4 (.int .i64 ((L.got : Int) + 1))
  have hmd : Mod fp w w' := ((Mod.refl fp w).grown hg1 (fun k hk => .inl (by cases hk; exact h.fpE))).grown hg (fun k hk => .inl (by cases hk; exact h.fpM))
  have hr := (h.row.set 4 (.int .i64 ((L.got : Int) + 1))).kept hg (fun e => h.neM (Option.some.inj e))
  exact ⟨⟨h.ok.step hs, hr, (h.own.kept hg1 (fun k hk e => (h.neV k hk).1 (Option.some.inj e).symm)).kept hg (fun k hk e => (h.neV k hk).2 (Option.some.inj e).symm), hm, h.fpE, h.fpM, h.fpV, h.neM, h.neV,
    fun k hk => Nat.lt_of_lt_of_le (h.low k hk) hmd.size⟩, hmd⟩

set_option maxRecDepth 100000 in
set_option maxHeartbeats 2000000 in
theorem inn_any {w : World} {fp : Nat → Prop} {E : Nat} {L : Lk} (h : EndAt w fp E L) (ht : Tab w) (hi : L.ins < 1000000) (p : Pkt) (hp : L.Takes p) :
    Calls Tryd.prog 26 #[.pointer (some ⟨E, 0, none⟩), p.val] w fun e w' => ∃ v, e = .returned (.tuple #[v, .int .i64 0]) ∧ Own w' w.heap.size 9 1 v (L.inn p).2.length (svals (L.inn p).2) ∧ Mod fp w w' ∧ EndAt w' fp E (L.inn p).1 := by
  obtain ⟨v, M, h⟩ := h
  have hser := hp.1.2.1.1
  have hack := hp.1.2.1.2.1
  have hackl := hp.2
  have hbody := hp.1.2.1.2.2.1
  have hgot := h.ok.got
  have hl100 := h.ok.sent
  have hal := h.ok.acked
  have Hinn : Hid (L.inn p = Lk.drain 101 (L.stored p)) := Lib.hid (by unfold Lk.inn; rw [if_pos hp])
  have Hok := Lib.hid (h.ok.stored hp hi)
  obtain ⟨p0, cap, rfl, _⟩ := h.own.form'
  have HG := Lib.hid (genuine_any L.other p)
  have Hgen : Hid (decide (Genuine L.other p) = true) := Lib.hid (decide_eq_true hp.1)
  clear hp
  obtain ⟨ser, ack, body, sl⟩ := p
  obtain ⟨na, rfl⟩ : ∃ n : Nat, ack = n := ⟨ack.toNat, by dsimp only at hack; omega⟩
  dsimp only at hser hack hackl hbody
  have hr := (Row.new w 24 [.int .i64 ser, .int .i64 (na : Nat), .string body, .string sl])
  have hE0 := (Ext.refl w).alloc (.cells [.int .i64 ser, .int .i64 (na : Nat), .string body, .string sl].toArray 24)
  have h1 := EndAt'.mod h (Mod.of_ext (fp := fun _ => False) hE0) (fun _ _ h => h)
  have hlow := h.low
  clear h
  go_enter Tryd.func26, Tryd.ntmps26
  unfold Pkt.val Pkt.cells at *
  go_wp2
  generalize w.alloc (.cells #[.int .i64 ser, .int .i64 (na : Nat), .string body, .string sl] 24) = w1 at *
  have g0 : ∀ u, (wplus w1 u).cell? ⟨w.heap.size, 0, none⟩ = some (.int .i64 ser) := fun u => (hr.plus u).cell 0 (by show 0 < 4; decide)
  have g1 : ∀ u, (wplus w1 u).cell? ⟨w.heap.size, 1, none⟩ = some (.int .i64 (na : Nat)) := fun u => (hr.plus u).cell 1 (by show 1 < 4; decide)
  have g2 : ∀ u, (wplus w1 u).cell? ⟨w.heap.size, 2, none⟩ = some (.string body) := fun u => (hr.plus u).cell 2 (by show 2 < 4; decide)
  have g3 : ∀ u, (wplus w1 u).cell? ⟨w.heap.size, 3, none⟩ = some (.string sl) := fun u => (hr.plus u).cell 3 (by show 3 < 4; decide)
  have f1 : ∀ u, (wplus w1 u).cell? ⟨E, 1, none⟩ = some (.string L.other) := fun u => (h1.row.plus u).cell 1 (by show 1 < 6; decide)
  have f2 : ∀ u, (wplus w1 u).cell? ⟨E, 2, none⟩ = some (.slice p0 L.sent.length cap) := fun u => (h1.row.plus u).cell 2 (by show 2 < 6; decide)
  have H1 := Lib.hid h1
  clear h1
  refine wp_region_plan [] (.step 0 .pure (.step 1 .pure (.step 2 .pure (.step 3 .read (.step 4 .read (.step 5 (.eff false) (.step 6 .pure (.step 7 .pure (.step 8 .pure (.step 9 .read (.step 10 .pure (.step 11 .pure (.step 12 .pure (.step 13 .read (.step 14 .pure (.step 15 .pure (.step 16 .pure (.fin)))))))))))))))))) (by kernel_rfl) (by kernel_rfl) (Ext.refl w1) ?_
  simp only [pickOps, List.getD_cons_zero, List.getD_cons_succ]
  repeat (first
    | (refine pure_n rfl ?_; intro N hN; go_big_quiet_op; go_big_quiet_on)
    | (refine read_n rfl ?_; intro N hN; go_big_quiet_op; go_big_quiet_on)
    | (refine pure_g rfl rfl rfl rfl ?_; intro N hN; go_big_quiet_op; go_big_quiet_on)
    | (refine read_g rfl rfl rfl rfl ?_; intro N hN; go_big_quiet_op; go_big_quiet_on)
    | (refine skip_g rfl rfl rfl rfl ?_; simp only [Act.put, List.setIfInBounds_toArray, List.set_cons_zero, List.set_cons_succ]))
  refine eff_n rfl ?_
  intro N hN
  go_big_op
  refine (HG.out w1.drew (ht.ext hE0.drew)).mono ?_
  rintro e w2 ⟨rfl, hE2⟩
  have hE3 : Ext w1 w2 := (Ext.refl w1).drew.trans hE2
  rw [Hgen.out]
  refine hN _ w1 w2 (fun _ => Ext.refl _) hE3 ?_
  repeat (first
    | (refine pure_n rfl ?_; intro N hN; go_big_quiet_op; go_big_quiet_on)
    | (refine read_n rfl ?_; intro N hN; go_big_quiet_op; go_big_quiet_on)
    | (refine pure_g rfl rfl rfl rfl ?_; intro N hN; go_big_quiet_op; go_big_quiet_on)
    | (refine read_g rfl rfl rfl rfl ?_; intro N hN; go_big_quiet_op; go_big_quiet_on)
    | (refine skip_g rfl rfl rfl rfl ?_; simp only [Act.put, List.setIfInBounds_toArray, List.set_cons_zero, List.set_cons_succ]))
  refine plan_nil ?_
  go_wp2
  have f3 : ∀ u, (wplus w2 u).cell? ⟨E, 3, none⟩ = some (.int .i64 (L.acked : Nat)) := fun u => ((H1.out.row.ext hE3).plus u).cell 3 (by show 3 < 6; decide)
  have g1' : ∀ u, (wplus w2 u).cell? ⟨w.heap.size, 1, none⟩ = some (.int .i64 (na : Nat)) := fun u => ((hr.ext hE3).plus u).cell 1 (by show 1 < 4; decide)
  refine wp_region_plan [10] (.step 0 .pure (.step 1 .pure (.step 2 .pure (.step 3 .pure (.step 4 .read (.step 5 .pure (.step 6 .read (.step 7 .pure (.step 8 .pure (.step 9 .pure (.step 10 (.eff true) (.fin)))))))))))) (by kernel_rfl) (by kernel_rfl) (Ext.refl w2) ?_
  simp only [pickOps, List.getD_cons_zero, List.getD_cons_succ]
  repeat (first
    | (refine pure_n rfl ?_; intro N hN; go_big_quiet_op; go_big_quiet_on)
    | (refine read_n rfl ?_; intro N hN; go_big_quiet_op; go_big_quiet_on)
    | (refine pure_g rfl rfl rfl rfl ?_; intro N hN; go_big_quiet_op; go_big_quiet_on)
    | (refine read_g rfl rfl rfl rfl ?_; intro N hN; go_big_quiet_op; go_big_quiet_on)
    | (refine skip_g rfl rfl rfl rfl ?_; simp only [Act.put, List.setIfInBounds_toArray, List.set_cons_zero, List.set_cons_succ]))
  have c3 : w2.drew.cell? ⟨E, 3, none⟩ = some (.int .i64 (L.acked : Nat)) := ((H1.out.row.ext hE3).drew).cell 3 (by show 3 < 6; decide)
  have z3 : w2.drew.frozen? ⟨E, 3, none⟩ = false := ((H1.out.row.ext hE3).drew).frozen 3
  refine eff_n rfl ?_
  intro N hN
  go_big_op
  refine hN _ _ _ (fun h => by cases h) (Ext.refl _) ?_
  refine plan_nil ?_
  have hset := (EndAt'.mod H1.out (Mod.of_ext (fp := fun _ => False) hE3) (fun _ _ h => h)).setAcked (max L.acked na) (by omega)
  rw [show ((max L.acked na : Nat) : Int) = max (L.acked : Int) (na : Int) by omega] at hset
  have hr3 := (hr.ext hE3).other (p := ⟨E, 3, none⟩) (by have := hlow E H1.out.fpE; show E ≠ _; omega) (.int .i64 (max (L.acked : Int) (na : Int)))
  go_wp2
  generalize hw3 : w2.setCell ⟨E, 3, none⟩ (.int .i64 (max (L.acked : Int) (na : Int))) = w3 at *
  obtain ⟨h3, hm3⟩ := hset
  have hm03 : Mod fp w w3 := ((Mod.of_ext (fp := fp) (hE0.trans hE3))).trans hm3 (fun _ h => .inl h)
  clear hm3 hw3 c3 z3 f3 g1' g0 g1 g2 g3 f1 f2 H1 hr hE2 hE3 HG Hgen hE0
  have f5 : ∀ u, (wplus w3 u).cell? ⟨E, 5, none⟩ = some (.map (some M)) := fun u => (h3.row.plus u).cell 5 (by show 5 < 6; decide)
  have f4 : ∀ u, (wplus w3 u).cell? ⟨E, 4, none⟩ = some (.int .i64 (L.got : Nat)) := fun u => (h3.row.plus u).cell 4 (by show 4 < 6; decide)
  have g0 : ∀ u, (wplus w3 u).cell? ⟨w.heap.size, 0, none⟩ = some (.int .i64 ser) := fun u => (hr3.plus u).cell 0 (by show 0 < 4; decide)
  have g2 : ∀ u, (wplus w3 u).cell? ⟨w.heap.size, 2, none⟩ = some (.string body) := fun u => (hr3.plus u).cell 2 (by show 2 < 4; decide)
  have hl : ∀ u, (Instr.lookup 71 (.map (some M)) (.int .i64 ser) true).run Tryd.prog (wplus w3 u) = .ok (.tuple #[.string ((L.early ser).getD ⟨#[]⟩), .bool (L.early ser).isSome]) (wplus w3 u) := fun u => (h3.map.plus u).look ⟨by omega, by omega⟩
  have H3 := Lib.hid h3
  clear h3
  rcases hls : L.early ser with _ | s
  · rw [hls] at hl
    simp only [Option.getD_none, Option.isSome_none] at hl
    by_cases hin : (L.got : Int) + 1 ≤ ser ∧ ser ≤ (L.got : Int) + 4
    · have Hst : Hid (L.stored ⟨ser, (na : Nat), body, sl⟩ = (L.ackd ⟨ser, (na : Nat), body, sl⟩).kept ⟨ser, (na : Nat), body, sl⟩) := Lib.hid (by unfold Lk.stored; rw [if_pos ⟨hls, hin⟩])
      have Hdec : Hid (decide ((L.got : Int) + 1 ≤ ser ∧ ser ≤ (L.got : Int) + 4) = true) := Lib.hid (decide_eq_true hin)
      clear hin hls
      refine wp_region_plan [] (.step 0 .pure (.step 1 .pure (.step 2 .pure (.step 3 .read (.step 4 .pure (.step 5 .read (.step 6 .read (.step 7 .pure (.step 8 .pure (.step 9 .pure (.step 10 .pure (.step 11 .pure (.fin))))))))))))) (by kernel_rfl) (by kernel_rfl) ((Ext.refl w3).drew) ?_
      simp only [pickOps, List.getD_cons_zero, List.getD_cons_succ]
      repeat (first
        | (refine pure_n rfl ?_; intro N hN; go_big_quiet_op; go_big_quiet_on)
        | (refine read_n rfl ?_; intro N hN; go_big_quiet_op; go_big_quiet_on)
        | (refine pure_g rfl rfl rfl rfl ?_; intro N hN; go_big_quiet_op; go_big_quiet_on)
        | (refine read_g rfl rfl rfl rfl ?_; intro N hN; go_big_quiet_op; go_big_quiet_on)
        | (refine skip_g rfl rfl rfl rfl ?_; simp only [Act.put, List.setIfInBounds_toArray, List.set_cons_zero, List.set_cons_succ]))
      refine plan_nil ?_
      go_wp2
      refine wp_region_plan [] (.step 0 .pure (.step 1 .pure (.step 2 .pure (.step 3 .pure (.step 4 .read (.step 5 .pure (.step 6 .pure (.step 7 .pure (.step 8 .read (.step 9 .pure (.step 10 .pure (.step 11 .pure (.step 12 .pure (.step 13 .read (.step 14 .pure (.step 15 (.eff false) (.step 16 .pure (.fin)))))))))))))))))) (by kernel_rfl) (by kernel_rfl) ((show Ext w3 _ from by repeat first | exact Ext.refl _ | refine Ext.drew ?_)) ?_
      simp only [pickOps, List.getD_cons_zero, List.getD_cons_succ]
      repeat (first
        | (refine pure_n rfl ?_; intro N hN; go_big_quiet_op; go_big_quiet_on)
        | (refine read_n rfl ?_; intro N hN; go_big_quiet_op; go_big_quiet_on)
        | (refine pure_g rfl rfl rfl rfl ?_; intro N hN; go_big_quiet_op; go_big_quiet_on)
        | (refine read_g rfl rfl rfl rfl ?_; intro N hN; go_big_quiet_op; go_big_quiet_on)
        | (refine skip_g rfl rfl rfl rfl ?_; simp only [Act.put, List.setIfInBounds_toArray, List.set_cons_zero, List.set_cons_succ]))
      refine eff_g rfl rfl rfl rfl ?_
      intro N hN
      go_big_op
      refine (isIn_any _ _ _ _).mono ?_
      rintro e w4 ⟨rfl, hw⟩
      subst w4
      rw [Hdec.out]
      refine hN _ w3 _ (fun _ => Ext.refl _) (by repeat first | exact Ext.refl _ | refine Ext.drew ?_) ?_
      repeat (first
        | (refine pure_n rfl ?_; intro N hN; go_big_quiet_op; go_big_quiet_on)
        | (refine read_n rfl ?_; intro N hN; go_big_quiet_op; go_big_quiet_on)
        | (refine pure_g rfl rfl rfl rfl ?_; intro N hN; go_big_quiet_op; go_big_quiet_on)
        | (refine read_g rfl rfl rfl rfl ?_; intro N hN; go_big_quiet_op; go_big_quiet_on)
        | (refine skip_g rfl rfl rfl rfl ?_; simp only [Act.put, List.setIfInBounds_toArray, List.set_cons_zero, List.set_cons_succ]))
      refine plan_nil ?_
      go_wp2
      obtain ⟨W4, hst, hms, hgs⟩ := (show Mp w3.drew.drew.drew.drew M _ _ from H3.out.map.heap rfl).store (by have := H3.out.ok.ins; simp only [maxLen]; omega) (x := ser) ⟨by omega, by omega⟩ (s := body) (by simp only [maxLen]; omega)
      have HGS := Lib.hid (grown_und (grown_und (grown_und (grown_und hgs))))
      have HMS := Lib.hid hms
      clear hgs hms
      refine wp_region_plan [8] (.step 0 .pure (.step 1 .pure (.step 2 .pure (.step 3 .read (.step 4 .pure (.step 5 .read (.step 6 .pure (.step 7 .read (.step 8 (.eff true) (.fin)))))))))) (by kernel_rfl) (by kernel_rfl) ((show Ext w3 _ from by repeat first | exact Ext.refl _ | refine Ext.drew ?_)) ?_
      simp only [pickOps, List.getD_cons_zero, List.getD_cons_succ]
      repeat (first
        | (refine pure_n rfl ?_; intro N hN; go_big_quiet_op; go_big_quiet_on)
        | (refine read_n rfl ?_; intro N hN; go_big_quiet_op; go_big_quiet_on)
        | (refine pure_g rfl rfl rfl rfl ?_; intro N hN; go_big_quiet_op; go_big_quiet_on)
        | (refine read_g rfl rfl rfl rfl ?_; intro N hN; go_big_quiet_op; go_big_quiet_on)
        | (refine skip_g rfl rfl rfl rfl ?_; simp only [Act.put, List.setIfInBounds_toArray, List.set_cons_zero, List.set_cons_succ]))
      refine eff_n rfl ?_
      intro N hN
      go_big_op
      refine hN _ _ _ (fun h => by cases h) (Ext.refl _) ?_
      refine plan_nil ?_
      clear hst
      obtain ⟨h4, hms4⟩ := H3.out.mapped (L' := L.stored ⟨ser, (na : Nat), body, sl⟩) HGS.out (by rw [Hst.out]; exact HMS.out) Hok.out (by rw [Hst.out]; rfl) (by rw [Hst.out]; rfl) (by rw [Hst.out]; rfl) (by rw [Hst.out]; rfl) (by rw [Hst.out]; rfl)
      have hm4 := hm03.trans hms4 (fun _ h => .inl h)
      clear hms4 HGS HMS
      have h4l := h4.ok.got
      clear H3
      go_wp2
      go_loopw [8] (fun i wr => ∃ (f : Nat) (Lc : Lk) (o : List ByteArray), Hid (EndAt' wr fp E Lc (.slice p0 L.sent.length cap) M) ∧ Hid (Own wr w.heap.size 9 1 i o.length (svals o)) ∧ Hid (Mod fp w wr) ∧ Hid (Lk.drain 101 (L.stored ⟨ser, (na : Nat), body, sl⟩) = ((Lk.drain f Lc).1, o ++ (Lk.drain f Lc).2)) ∧ Hid (101 ≤ f + Lc.got ∧ o.length ≤ Lc.got)) (fun i _ => 101 - lenV i)
      case atStart => exact ⟨101, _, [], Lib.hid h4, Lib.hid (Own.nil _ _ _ _), Lib.hid hm4, Lib.hid rfl, Lib.hid ⟨by omega, Nat.zero_le _⟩⟩
      case round =>
        obtain ⟨f, Lc, o, Hc, Ho, Hm, Hd, Hf⟩ := hrel
        clear h4 hm4
        obtain ⟨vi, ci, rfl, _⟩ := Ho.out.form'
        have hcg := Hc.out.ok.got
        have f5 : ∀ u, (wplus wr u).cell? ⟨E, 5, none⟩ = some (.map (some M)) := fun u => (Hc.out.row.plus u).cell 5 (by show 5 < 6; decide)
        have f4 : ∀ u, (wplus wr u).cell? ⟨E, 4, none⟩ = some (.int .i64 (Lc.got : Nat)) := fun u => (Hc.out.row.plus u).cell 4 (by show 4 < 6; decide)
        rcases hs : Lc.early ((Lc.got : Int) + 1) with _ | s
        · have hl : ∀ u, (Instr.lookup 71 (.map (some M)) (.int .i64 ((Lc.got : Int) + 1)) true).run Tryd.prog (wplus wr u) = .ok (.tuple #[.string ⟨#[]⟩, .bool false]) (wplus wr u) := fun u => by
            have := (Hc.out.map.plus u).look (x := (Lc.got : Int) + 1) ⟨by omega, by omega⟩
            rw [hs] at this; exact this
          have Hfin : Hid (L.inn ⟨ser, (na : Nat), body, sl⟩ = (Lc, o)) := Lib.hid (by rw [Hinn.out, Hd.out, drain_none hs, List.append_nil])
          clear hs
          go_wp2
          refine wp_region_plan [] (.step 0 .pure (.step 1 .pure (.step 2 .pure (.step 3 .read (.step 4 .pure (.step 5 .pure (.step 6 .pure (.step 7 .read (.step 8 .pure (.step 9 .read (.step 10 .pure (.step 11 .pure (.step 12 .pure (.step 13 .pure (.step 14 .pure (.fin)))))))))))))))) (by kernel_rfl) (by kernel_rfl) (Ext.refl wr) ?_
          simp only [pickOps, List.getD_cons_zero, List.getD_cons_succ]
          repeat (first
            | (refine pure_n rfl ?_; intro N hN; go_big_quiet_op; go_big_quiet_on)
            | (refine read_n rfl ?_; intro N hN; go_big_quiet_op; go_big_quiet_on)
            | (refine pure_g rfl rfl rfl rfl ?_; intro N hN; go_big_quiet_op; go_big_quiet_on)
            | (refine read_g rfl rfl rfl rfl ?_; intro N hN; go_big_quiet_op; go_big_quiet_on)
            | (refine skip_g rfl rfl rfl rfl ?_; simp only [Act.put, List.setIfInBounds_toArray, List.set_cons_zero, List.set_cons_succ]))
          refine plan_nil ?_
          go_wp2
          go_ret2
          refine ⟨.slice vi o.length ci, by kernel_rfl, ?_, Hm.out.drew, ?_⟩
          · rw [Hfin.out]; exact Ho.out.drew
          · rw [Hfin.out]; exact ⟨_, _, Hc.out.mod (Mod.of_ext (fp := fun _ => False) (Ext.refl _).drew) (fun _ _ h => h)⟩
        · have hl : ∀ u, (Instr.lookup 71 (.map (some M)) (.int .i64 ((Lc.got : Int) + 1)) true).run Tryd.prog (wplus wr u) = .ok (.tuple #[.string s, .bool true]) (wplus wr u) := fun u => by
            have := (Hc.out.map.plus u).look (x := (Lc.got : Int) + 1) ⟨by omega, by omega⟩
            rw [hs] at this; exact this
          have Hs := Lib.hid hs
          clear hs
          go_wp2
          refine wp_region_plan [] (.step 0 .pure (.step 1 .pure (.step 2 .pure (.step 3 .read (.step 4 .pure (.step 5 .pure (.step 6 .pure (.step 7 .read (.step 8 .pure (.step 9 .read (.step 10 .pure (.step 11 .pure (.step 12 .pure (.step 13 .pure (.step 14 .pure (.fin)))))))))))))))) (by kernel_rfl) (by kernel_rfl) (Ext.refl wr) ?_
          simp only [pickOps, List.getD_cons_zero, List.getD_cons_succ]
          repeat (first
            | (refine pure_n rfl ?_; intro N hN; go_big_quiet_op; go_big_quiet_on)
            | (refine read_n rfl ?_; intro N hN; go_big_quiet_op; go_big_quiet_on)
            | (refine pure_g rfl rfl rfl rfl ?_; intro N hN; go_big_quiet_op; go_big_quiet_on)
            | (refine read_g rfl rfl rfl rfl ?_; intro N hN; go_big_quiet_op; go_big_quiet_on)
            | (refine skip_g rfl rfl rfl rfl ?_; simp only [Act.put, List.setIfInBounds_toArray, List.set_cons_zero, List.set_cons_succ]))
          refine plan_nil ?_
          have c4 : wr.drew.cell? ⟨E, 4, none⟩ = some (.int .i64 (Lc.got : Nat)) := (Hc.out.row.drew).cell 4 (by show 4 < 6; decide)
          have z4 : wr.drew.frozen? ⟨E, 4, none⟩ = false := (Hc.out.row.drew).frozen 4
          go_wp2
          have hearl := Hc.out.ok.early _ _ Hs.out
          obtain ⟨f', rfl⟩ : ∃ f', f = f' + 1 := ⟨f - 1, by have := Hf.out.1; omega⟩
          have hrq := Hc.out.row.set 4 (.int .i64 ((Lc.got : Int) + 1))
          have hmq := Hc.out.map.kept (grown_at wr E 4 (.int .i64 ((Lc.got : Int) + 1))) (fun e => Hc.out.neM (Option.some.inj e).symm)
          generalize hq : wr.setCell ⟨E, 4, none⟩ (.int .i64 ((Lc.got : Int) + 1)) = wq at *
          obtain ⟨W2, hdel, hm2, hg2⟩ := (show Mp wq.drew.drew M _ _ from hmq.heap rfl).drop (x := (Lc.got : Int) + 1) ⟨by omega, by omega⟩ 0
          have HG2 := Lib.hid (grown_und (grown_und hg2))
          have HM2 := Lib.hid hm2
          have q5 : ∀ u, (wplus wq u).cell? ⟨E, 5, none⟩ = some (.map (some M)) := fun u => (hrq.plus u).cell 5 (by show 5 < 6; decide)
          have q4 : ∀ u, (wplus wq u).cell? ⟨E, 4, none⟩ = some (.int .i64 ((Lc.got : Int) + 1)) := fun u => (hrq.plus u).cell 4 (by show 4 < 6; decide)
          clear f4 f5 hl c4 z4 hmq hrq hg2 hm2
          refine wp_region_plan [8] (.step 0 .pure (.step 1 .pure (.step 2 .pure (.step 3 .read (.step 4 .pure (.step 5 .pure (.step 6 .pure (.step 7 .read (.step 8 (.eff true) (.fin)))))))))) (by kernel_rfl) (by kernel_rfl) ((Ext.refl wq).drew) ?_
          simp only [pickOps, List.getD_cons_zero, List.getD_cons_succ]
          repeat (first
            | (refine pure_n rfl ?_; intro N hN; go_big_quiet_op; go_big_quiet_on)
            | (refine read_n rfl ?_; intro N hN; go_big_quiet_op; go_big_quiet_on)
            | (refine pure_g rfl rfl rfl rfl ?_; intro N hN; go_big_quiet_op; go_big_quiet_on)
            | (refine read_g rfl rfl rfl rfl ?_; intro N hN; go_big_quiet_op; go_big_quiet_on)
            | (refine skip_g rfl rfl rfl rfl ?_; simp only [Act.put, List.setIfInBounds_toArray, List.set_cons_zero, List.set_cons_succ]))
          refine eff_n rfl ?_
          intro N hN
          go_big_op
          refine hN _ _ _ (fun h => by cases h) (Ext.refl _) ?_
          refine plan_nil ?_
          subst hq
          obtain ⟨hS, hMS⟩ := Hc.out.stepped Hs.out HG2.out HM2.out
          have HS := Lib.hid hS
          have HMS := Lib.hid hMS
          clear hS hMS hdel q4 q5
          have ho2 := HMS.out.own Ho.out (fun k hk hf => by have := (Ho.out.lt k hk).1; have := hlow k hf; omega)
          have hsz2 := (Hm.out.size)
          have hsz3 := (HMS.out.size)
          go_wp2_with (at_builtin; go_loud (refine wpList_append_G rfl _ _ 44 rfl _ 9 (.string ByteArray.empty) 1 16 Tryd.underlying44 (by kernel_rfl) rfl (by decide) (ho2.alloc _) rfl [_] rfl rfl (new_cells _ _ _) (by simp [Value.oneCell']) (by (have := Hf.out.2); simp only [maxLen]; omega) (by (have := Hf.out.2); omega) (by have := (show w.heap.size ≤ W2.heap.size by omega); simp at this ⊢ <;> omega) ?_; intro v3 w3 ho3 hg3))
          have hM3 : Mod (fun k => (Value.slice vi o.length ci).ownBlock = some k ∨ W2.heap.size ≤ k) W2 w3 := ((Mod.of_ext ((Ext.refl W2).alloc _)).grown hg3 (fun k hk => .inl (.inl hk)))
          refine ⟨⟨f', _, o ++ [s], Lib.hid (HS.out.mod hM3 (fun k hk hf => ?_)), Lib.hid ?_, Lib.hid ((Hm.out.trans HMS.out (fun _ h => .inl h)).trans hM3 (fun k hk => .inr ?_)), Lib.hid ?_, Lib.hid ⟨?_, ?_⟩⟩, ?_⟩
          · have h1 := hlow k hk
            rcases hf with hf | hf
            · have := (Ho.out.lt k hf).1; omega
            · omega
          · have : svals (o ++ [s]) = svals o ++ [Value.string s] := by unfold svals; rw [List.map_append]; rfl
            rw [this, List.length_append]
            exact ho3
          · rcases hk with hk | hk
            · exact (Ho.out.lt k hk).1
            · omega
          · rw [Hd.out, drain_some Hs.out, List.append_assoc]; rfl
          · have := Hf.out.1; show 101 ≤ f' + (Lc.got + 1); omega
          · have := Hf.out.2; rw [List.length_append]; show o.length + 1 ≤ Lc.got + 1; omega
          · have := Hf.out.2; rw [ho3.lenV, lenV_slice]; omega
    · have Hst : Hid (L.stored ⟨ser, (na : Nat), body, sl⟩ = L.ackd ⟨ser, (na : Nat), body, sl⟩) := Lib.hid (by unfold Lk.stored; rw [if_neg (fun h => hin h.2)])
      have Hdec : Hid (decide ((L.got : Int) + 1 ≤ ser ∧ ser ≤ (L.got : Int) + 4) = false) := Lib.hid (decide_eq_false hin)
      clear hin hls
      refine wp_region_plan [] (.step 0 .pure (.step 1 .pure (.step 2 .pure (.step 3 .read (.step 4 .pure (.step 5 .read (.step 6 .read (.step 7 .pure (.step 8 .pure (.step 9 .pure (.step 10 .pure (.step 11 .pure (.fin))))))))))))) (by kernel_rfl) (by kernel_rfl) ((Ext.refl w3).drew) ?_
      simp only [pickOps, List.getD_cons_zero, List.getD_cons_succ]
      repeat (first
        | (refine pure_n rfl ?_; intro N hN; go_big_quiet_op; go_big_quiet_on)
        | (refine read_n rfl ?_; intro N hN; go_big_quiet_op; go_big_quiet_on)
        | (refine pure_g rfl rfl rfl rfl ?_; intro N hN; go_big_quiet_op; go_big_quiet_on)
        | (refine read_g rfl rfl rfl rfl ?_; intro N hN; go_big_quiet_op; go_big_quiet_on)
        | (refine skip_g rfl rfl rfl rfl ?_; simp only [Act.put, List.setIfInBounds_toArray, List.set_cons_zero, List.set_cons_succ]))
      refine plan_nil ?_
      go_wp2
      refine wp_region_plan [] (.step 0 .pure (.step 1 .pure (.step 2 .pure (.step 3 .pure (.step 4 .read (.step 5 .pure (.step 6 .pure (.step 7 .pure (.step 8 .read (.step 9 .pure (.step 10 .pure (.step 11 .pure (.step 12 .pure (.step 13 .read (.step 14 .pure (.step 15 (.eff false) (.step 16 .pure (.fin)))))))))))))))))) (by kernel_rfl) (by kernel_rfl) ((show Ext w3 _ from by repeat first | exact Ext.refl _ | refine Ext.drew ?_)) ?_
      simp only [pickOps, List.getD_cons_zero, List.getD_cons_succ]
      repeat (first
        | (refine pure_n rfl ?_; intro N hN; go_big_quiet_op; go_big_quiet_on)
        | (refine read_n rfl ?_; intro N hN; go_big_quiet_op; go_big_quiet_on)
        | (refine pure_g rfl rfl rfl rfl ?_; intro N hN; go_big_quiet_op; go_big_quiet_on)
        | (refine read_g rfl rfl rfl rfl ?_; intro N hN; go_big_quiet_op; go_big_quiet_on)
        | (refine skip_g rfl rfl rfl rfl ?_; simp only [Act.put, List.setIfInBounds_toArray, List.set_cons_zero, List.set_cons_succ]))
      refine eff_g rfl rfl rfl rfl ?_
      intro N hN
      go_big_op
      refine (isIn_any _ _ _ _).mono ?_
      rintro e w4 ⟨rfl, hw⟩
      subst w4
      rw [Hdec.out]
      refine hN _ w3 _ (fun _ => Ext.refl _) (by repeat first | exact Ext.refl _ | refine Ext.drew ?_) ?_
      repeat (first
        | (refine pure_n rfl ?_; intro N hN; go_big_quiet_op; go_big_quiet_on)
        | (refine read_n rfl ?_; intro N hN; go_big_quiet_op; go_big_quiet_on)
        | (refine pure_g rfl rfl rfl rfl ?_; intro N hN; go_big_quiet_op; go_big_quiet_on)
        | (refine read_g rfl rfl rfl rfl ?_; intro N hN; go_big_quiet_op; go_big_quiet_on)
        | (refine skip_g rfl rfl rfl rfl ?_; simp only [Act.put, List.setIfInBounds_toArray, List.set_cons_zero, List.set_cons_succ]))
      refine plan_nil ?_
      generalize hw4 : w3.drew.drew.drew = w4 at *
      have hE4 : Ext w3 w4 := by rw [← hw4]; repeat first | exact Ext.refl _ | refine Ext.drew ?_
      have h4 := H3.out.mod (Mod.of_ext (fp := fun _ => False) hE4) (fun _ _ h => h)
      have hm4 := hm03.ext hE4
      have h4 : EndAt' w4 fp E (L.stored ⟨ser, (na : Nat), body, sl⟩) (.slice p0 L.sent.length cap) M := by rw [Hst.out]; exact h4
      have h4l := h4.ok.got
      clear H3
      go_wp2
      go_loopw [8] (fun i wr => ∃ (f : Nat) (Lc : Lk) (o : List ByteArray), Hid (EndAt' wr fp E Lc (.slice p0 L.sent.length cap) M) ∧ Hid (Own wr w.heap.size 9 1 i o.length (svals o)) ∧ Hid (Mod fp w wr) ∧ Hid (Lk.drain 101 (L.stored ⟨ser, (na : Nat), body, sl⟩) = ((Lk.drain f Lc).1, o ++ (Lk.drain f Lc).2)) ∧ Hid (101 ≤ f + Lc.got ∧ o.length ≤ Lc.got)) (fun i _ => 101 - lenV i)
      case atStart => exact ⟨101, _, [], Lib.hid h4, Lib.hid (Own.nil _ _ _ _), Lib.hid hm4, Lib.hid rfl, Lib.hid ⟨by omega, Nat.zero_le _⟩⟩
      case round =>
        obtain ⟨f, Lc, o, Hc, Ho, Hm, Hd, Hf⟩ := hrel
        clear h4 hm4
        obtain ⟨vi, ci, rfl, _⟩ := Ho.out.form'
        have hcg := Hc.out.ok.got
        have f5 : ∀ u, (wplus wr u).cell? ⟨E, 5, none⟩ = some (.map (some M)) := fun u => (Hc.out.row.plus u).cell 5 (by show 5 < 6; decide)
        have f4 : ∀ u, (wplus wr u).cell? ⟨E, 4, none⟩ = some (.int .i64 (Lc.got : Nat)) := fun u => (Hc.out.row.plus u).cell 4 (by show 4 < 6; decide)
        rcases hs : Lc.early ((Lc.got : Int) + 1) with _ | s
        · have hl : ∀ u, (Instr.lookup 71 (.map (some M)) (.int .i64 ((Lc.got : Int) + 1)) true).run Tryd.prog (wplus wr u) = .ok (.tuple #[.string ⟨#[]⟩, .bool false]) (wplus wr u) := fun u => by
            have := (Hc.out.map.plus u).look (x := (Lc.got : Int) + 1) ⟨by omega, by omega⟩
            rw [hs] at this; exact this
          have Hfin : Hid (L.inn ⟨ser, (na : Nat), body, sl⟩ = (Lc, o)) := Lib.hid (by rw [Hinn.out, Hd.out, drain_none hs, List.append_nil])
          clear hs
          go_wp2
          refine wp_region_plan [] (.step 0 .pure (.step 1 .pure (.step 2 .pure (.step 3 .read (.step 4 .pure (.step 5 .pure (.step 6 .pure (.step 7 .read (.step 8 .pure (.step 9 .read (.step 10 .pure (.step 11 .pure (.step 12 .pure (.step 13 .pure (.step 14 .pure (.fin)))))))))))))))) (by kernel_rfl) (by kernel_rfl) (Ext.refl wr) ?_
          simp only [pickOps, List.getD_cons_zero, List.getD_cons_succ]
          repeat (first
            | (refine pure_n rfl ?_; intro N hN; go_big_quiet_op; go_big_quiet_on)
            | (refine read_n rfl ?_; intro N hN; go_big_quiet_op; go_big_quiet_on)
            | (refine pure_g rfl rfl rfl rfl ?_; intro N hN; go_big_quiet_op; go_big_quiet_on)
            | (refine read_g rfl rfl rfl rfl ?_; intro N hN; go_big_quiet_op; go_big_quiet_on)
            | (refine skip_g rfl rfl rfl rfl ?_; simp only [Act.put, List.setIfInBounds_toArray, List.set_cons_zero, List.set_cons_succ]))
          refine plan_nil ?_
          go_wp2
          go_ret2
          refine ⟨.slice vi o.length ci, by kernel_rfl, ?_, Hm.out.drew, ?_⟩
          · rw [Hfin.out]; exact Ho.out.drew
          · rw [Hfin.out]; exact ⟨_, _, Hc.out.mod (Mod.of_ext (fp := fun _ => False) (Ext.refl _).drew) (fun _ _ h => h)⟩
        · have hl : ∀ u, (Instr.lookup 71 (.map (some M)) (.int .i64 ((Lc.got : Int) + 1)) true).run Tryd.prog (wplus wr u) = .ok (.tuple #[.string s, .bool true]) (wplus wr u) := fun u => by
            have := (Hc.out.map.plus u).look (x := (Lc.got : Int) + 1) ⟨by omega, by omega⟩
            rw [hs] at this; exact this
          have Hs := Lib.hid hs
          clear hs
          go_wp2
          refine wp_region_plan [] (.step 0 .pure (.step 1 .pure (.step 2 .pure (.step 3 .read (.step 4 .pure (.step 5 .pure (.step 6 .pure (.step 7 .read (.step 8 .pure (.step 9 .read (.step 10 .pure (.step 11 .pure (.step 12 .pure (.step 13 .pure (.step 14 .pure (.fin)))))))))))))))) (by kernel_rfl) (by kernel_rfl) (Ext.refl wr) ?_
          simp only [pickOps, List.getD_cons_zero, List.getD_cons_succ]
          repeat (first
            | (refine pure_n rfl ?_; intro N hN; go_big_quiet_op; go_big_quiet_on)
            | (refine read_n rfl ?_; intro N hN; go_big_quiet_op; go_big_quiet_on)
            | (refine pure_g rfl rfl rfl rfl ?_; intro N hN; go_big_quiet_op; go_big_quiet_on)
            | (refine read_g rfl rfl rfl rfl ?_; intro N hN; go_big_quiet_op; go_big_quiet_on)
            | (refine skip_g rfl rfl rfl rfl ?_; simp only [Act.put, List.setIfInBounds_toArray, List.set_cons_zero, List.set_cons_succ]))
          refine plan_nil ?_
          have c4 : wr.drew.cell? ⟨E, 4, none⟩ = some (.int .i64 (Lc.got : Nat)) := (Hc.out.row.drew).cell 4 (by show 4 < 6; decide)
          have z4 : wr.drew.frozen? ⟨E, 4, none⟩ = false := (Hc.out.row.drew).frozen 4
          go_wp2
          have hearl := Hc.out.ok.early _ _ Hs.out
          obtain ⟨f', rfl⟩ : ∃ f', f = f' + 1 := ⟨f - 1, by have := Hf.out.1; omega⟩
          have hrq := Hc.out.row.set 4 (.int .i64 ((Lc.got : Int) + 1))
          have hmq := Hc.out.map.kept (grown_at wr E 4 (.int .i64 ((Lc.got : Int) + 1))) (fun e => Hc.out.neM (Option.some.inj e).symm)
          generalize hq : wr.setCell ⟨E, 4, none⟩ (.int .i64 ((Lc.got : Int) + 1)) = wq at *
          obtain ⟨W2, hdel, hm2, hg2⟩ := (show Mp wq.drew.drew M _ _ from hmq.heap rfl).drop (x := (Lc.got : Int) + 1) ⟨by omega, by omega⟩ 0
          have HG2 := Lib.hid (grown_und (grown_und hg2))
          have HM2 := Lib.hid hm2
          have q5 : ∀ u, (wplus wq u).cell? ⟨E, 5, none⟩ = some (.map (some M)) := fun u => (hrq.plus u).cell 5 (by show 5 < 6; decide)
          have q4 : ∀ u, (wplus wq u).cell? ⟨E, 4, none⟩ = some (.int .i64 ((Lc.got : Int) + 1)) := fun u => (hrq.plus u).cell 4 (by show 4 < 6; decide)
          clear f4 f5 hl c4 z4 hmq hrq hg2 hm2
          refine wp_region_plan [8] (.step 0 .pure (.step 1 .pure (.step 2 .pure (.step 3 .read (.step 4 .pure (.step 5 .pure (.step 6 .pure (.step 7 .read (.step 8 (.eff true) (.fin)))))))))) (by kernel_rfl) (by kernel_rfl) ((Ext.refl wq).drew) ?_
          simp only [pickOps, List.getD_cons_zero, List.getD_cons_succ]
          repeat (first
            | (refine pure_n rfl ?_; intro N hN; go_big_quiet_op; go_big_quiet_on)
            | (refine read_n rfl ?_; intro N hN; go_big_quiet_op; go_big_quiet_on)
            | (refine pure_g rfl rfl rfl rfl ?_; intro N hN; go_big_quiet_op; go_big_quiet_on)
            | (refine read_g rfl rfl rfl rfl ?_; intro N hN; go_big_quiet_op; go_big_quiet_on)
            | (refine skip_g rfl rfl rfl rfl ?_; simp only [Act.put, List.setIfInBounds_toArray, List.set_cons_zero, List.set_cons_succ]))
          refine eff_n rfl ?_
          intro N hN
          go_big_op
          refine hN _ _ _ (fun h => by cases h) (Ext.refl _) ?_
          refine plan_nil ?_
          subst hq
          obtain ⟨hS, hMS⟩ := Hc.out.stepped Hs.out HG2.out HM2.out
          have HS := Lib.hid hS
          have HMS := Lib.hid hMS
          clear hS hMS hdel q4 q5
          have ho2 := HMS.out.own Ho.out (fun k hk hf => by have := (Ho.out.lt k hk).1; have := hlow k hf; omega)
          have hsz2 := (Hm.out.size)
          have hsz3 := (HMS.out.size)
          go_wp2_with (at_builtin; go_loud (refine wpList_append_G rfl _ _ 44 rfl _ 9 (.string ByteArray.empty) 1 16 Tryd.underlying44 (by kernel_rfl) rfl (by decide) (ho2.alloc _) rfl [_] rfl rfl (new_cells _ _ _) (by simp [Value.oneCell']) (by (have := Hf.out.2); simp only [maxLen]; omega) (by (have := Hf.out.2); omega) (by have := (show w.heap.size ≤ W2.heap.size by omega); simp at this ⊢ <;> omega) ?_; intro v3 w3 ho3 hg3))
          have hM3 : Mod (fun k => (Value.slice vi o.length ci).ownBlock = some k ∨ W2.heap.size ≤ k) W2 w3 := ((Mod.of_ext ((Ext.refl W2).alloc _)).grown hg3 (fun k hk => .inl (.inl hk)))
          refine ⟨⟨f', _, o ++ [s], Lib.hid (HS.out.mod hM3 (fun k hk hf => ?_)), Lib.hid ?_, Lib.hid ((Hm.out.trans HMS.out (fun _ h => .inl h)).trans hM3 (fun k hk => .inr ?_)), Lib.hid ?_, Lib.hid ⟨?_, ?_⟩⟩, ?_⟩
          · have h1 := hlow k hk
            rcases hf with hf | hf
            · have := (Ho.out.lt k hf).1; omega
            · omega
          · have : svals (o ++ [s]) = svals o ++ [Value.string s] := by unfold svals; rw [List.map_append]; rfl
            rw [this, List.length_append]
            exact ho3
          · rcases hk with hk | hk
            · exact (Ho.out.lt k hk).1
            · omega
          · rw [Hd.out, drain_some Hs.out, List.append_assoc]; rfl
          · have := Hf.out.1; show 101 ≤ f' + (Lc.got + 1); omega
          · have := Hf.out.2; rw [List.length_append]; show o.length + 1 ≤ Lc.got + 1; omega
          · have := Hf.out.2; rw [ho3.lenV, lenV_slice]; omega
  · have Hst : Hid (L.stored ⟨ser, (na : Nat), body, sl⟩ = L.ackd ⟨ser, (na : Nat), body, sl⟩) := Lib.hid (by unfold Lk.stored; rw [if_neg (fun h => by have h1 : L.early ser = none := h.1; rw [hls] at h1; cases h1)])
    rw [hls] at hl
    simp only [Option.getD_some, Option.isSome_some] at hl
    clear hls
    refine wp_region_plan [] (.step 0 .pure (.step 1 .pure (.step 2 .pure (.step 3 .read (.step 4 .pure (.step 5 .read (.step 6 .read (.step 7 .pure (.step 8 .pure (.step 9 .pure (.step 10 .pure (.step 11 .pure (.fin))))))))))))) (by kernel_rfl) (by kernel_rfl) ((Ext.refl w3).drew) ?_
    simp only [pickOps, List.getD_cons_zero, List.getD_cons_succ]
    repeat (first
      | (refine pure_n rfl ?_; intro N hN; go_big_quiet_op; go_big_quiet_on)
      | (refine read_n rfl ?_; intro N hN; go_big_quiet_op; go_big_quiet_on)
      | (refine pure_g rfl rfl rfl rfl ?_; intro N hN; go_big_quiet_op; go_big_quiet_on)
      | (refine read_g rfl rfl rfl rfl ?_; intro N hN; go_big_quiet_op; go_big_quiet_on)
      | (refine skip_g rfl rfl rfl rfl ?_; simp only [Act.put, List.setIfInBounds_toArray, List.set_cons_zero, List.set_cons_succ]))
    refine plan_nil ?_
    go_wp2
    refine wp_region_plan [] (.step 0 .pure (.step 1 .pure (.step 2 .pure (.step 3 .pure (.step 4 .read (.step 5 .pure (.step 6 .pure (.step 7 .pure (.step 8 .read (.step 9 .pure (.step 10 .pure (.step 11 .pure (.step 12 .pure (.step 13 .read (.step 14 .pure (.step 15 (.eff false) (.step 16 .pure (.fin)))))))))))))))))) (by kernel_rfl) (by kernel_rfl) ((show Ext w3 _ from by repeat first | exact Ext.refl _ | refine Ext.drew ?_)) ?_
    simp only [pickOps, List.getD_cons_zero, List.getD_cons_succ]
    repeat (first
      | (refine pure_n rfl ?_; intro N hN; go_big_quiet_op; go_big_quiet_on)
      | (refine read_n rfl ?_; intro N hN; go_big_quiet_op; go_big_quiet_on)
      | (refine pure_g rfl rfl rfl rfl ?_; intro N hN; go_big_quiet_op; go_big_quiet_on)
      | (refine read_g rfl rfl rfl rfl ?_; intro N hN; go_big_quiet_op; go_big_quiet_on)
      | (refine skip_g rfl rfl rfl rfl ?_; simp only [Act.put, List.setIfInBounds_toArray, List.set_cons_zero, List.set_cons_succ]))
    refine plan_nil ?_
    generalize hw4 : w3.drew.drew.drew = w4 at *
    have hE4 : Ext w3 w4 := by rw [← hw4]; repeat first | exact Ext.refl _ | refine Ext.drew ?_
    have h4 := H3.out.mod (Mod.of_ext (fp := fun _ => False) hE4) (fun _ _ h => h)
    have hm4 := hm03.ext hE4
    have h4 : EndAt' w4 fp E (L.stored ⟨ser, (na : Nat), body, sl⟩) (.slice p0 L.sent.length cap) M := by rw [Hst.out]; exact h4
    have h4l := h4.ok.got
    clear H3
    go_wp2
    go_loopw [8] (fun i wr => ∃ (f : Nat) (Lc : Lk) (o : List ByteArray), Hid (EndAt' wr fp E Lc (.slice p0 L.sent.length cap) M) ∧ Hid (Own wr w.heap.size 9 1 i o.length (svals o)) ∧ Hid (Mod fp w wr) ∧ Hid (Lk.drain 101 (L.stored ⟨ser, (na : Nat), body, sl⟩) = ((Lk.drain f Lc).1, o ++ (Lk.drain f Lc).2)) ∧ Hid (101 ≤ f + Lc.got ∧ o.length ≤ Lc.got)) (fun i _ => 101 - lenV i)
    case atStart => exact ⟨101, _, [], Lib.hid h4, Lib.hid (Own.nil _ _ _ _), Lib.hid hm4, Lib.hid rfl, Lib.hid ⟨by omega, Nat.zero_le _⟩⟩
    case round =>
      obtain ⟨f, Lc, o, Hc, Ho, Hm, Hd, Hf⟩ := hrel
      clear h4 hm4
      obtain ⟨vi, ci, rfl, _⟩ := Ho.out.form'
      have hcg := Hc.out.ok.got
      have f5 : ∀ u, (wplus wr u).cell? ⟨E, 5, none⟩ = some (.map (some M)) := fun u => (Hc.out.row.plus u).cell 5 (by show 5 < 6; decide)
      have f4 : ∀ u, (wplus wr u).cell? ⟨E, 4, none⟩ = some (.int .i64 (Lc.got : Nat)) := fun u => (Hc.out.row.plus u).cell 4 (by show 4 < 6; decide)
      rcases hs : Lc.early ((Lc.got : Int) + 1) with _ | s
      · have hl : ∀ u, (Instr.lookup 71 (.map (some M)) (.int .i64 ((Lc.got : Int) + 1)) true).run Tryd.prog (wplus wr u) = .ok (.tuple #[.string ⟨#[]⟩, .bool false]) (wplus wr u) := fun u => by
          have := (Hc.out.map.plus u).look (x := (Lc.got : Int) + 1) ⟨by omega, by omega⟩
          rw [hs] at this; exact this
        have Hfin : Hid (L.inn ⟨ser, (na : Nat), body, sl⟩ = (Lc, o)) := Lib.hid (by rw [Hinn.out, Hd.out, drain_none hs, List.append_nil])
        clear hs
        go_wp2
        refine wp_region_plan [] (.step 0 .pure (.step 1 .pure (.step 2 .pure (.step 3 .read (.step 4 .pure (.step 5 .pure (.step 6 .pure (.step 7 .read (.step 8 .pure (.step 9 .read (.step 10 .pure (.step 11 .pure (.step 12 .pure (.step 13 .pure (.step 14 .pure (.fin)))))))))))))))) (by kernel_rfl) (by kernel_rfl) (Ext.refl wr) ?_
        simp only [pickOps, List.getD_cons_zero, List.getD_cons_succ]
        repeat (first
          | (refine pure_n rfl ?_; intro N hN; go_big_quiet_op; go_big_quiet_on)
          | (refine read_n rfl ?_; intro N hN; go_big_quiet_op; go_big_quiet_on)
          | (refine pure_g rfl rfl rfl rfl ?_; intro N hN; go_big_quiet_op; go_big_quiet_on)
          | (refine read_g rfl rfl rfl rfl ?_; intro N hN; go_big_quiet_op; go_big_quiet_on)
          | (refine skip_g rfl rfl rfl rfl ?_; simp only [Act.put, List.setIfInBounds_toArray, List.set_cons_zero, List.set_cons_succ]))
        refine plan_nil ?_
        go_wp2
        go_ret2
        refine ⟨.slice vi o.length ci, by kernel_rfl, ?_, Hm.out.drew, ?_⟩
        · rw [Hfin.out]; exact Ho.out.drew
        · rw [Hfin.out]; exact ⟨_, _, Hc.out.mod (Mod.of_ext (fp := fun _ => False) (Ext.refl _).drew) (fun _ _ h => h)⟩
      · have hl : ∀ u, (Instr.lookup 71 (.map (some M)) (.int .i64 ((Lc.got : Int) + 1)) true).run Tryd.prog (wplus wr u) = .ok (.tuple #[.string s, .bool true]) (wplus wr u) := fun u => by
          have := (Hc.out.map.plus u).look (x := (Lc.got : Int) + 1) ⟨by omega, by omega⟩
          rw [hs] at this; exact this
        have Hs := Lib.hid hs
        clear hs
        go_wp2
        refine wp_region_plan [] (.step 0 .pure (.step 1 .pure (.step 2 .pure (.step 3 .read (.step 4 .pure (.step 5 .pure (.step 6 .pure (.step 7 .read (.step 8 .pure (.step 9 .read (.step 10 .pure (.step 11 .pure (.step 12 .pure (.step 13 .pure (.step 14 .pure (.fin)))))))))))))))) (by kernel_rfl) (by kernel_rfl) (Ext.refl wr) ?_
        simp only [pickOps, List.getD_cons_zero, List.getD_cons_succ]
        repeat (first
          | (refine pure_n rfl ?_; intro N hN; go_big_quiet_op; go_big_quiet_on)
          | (refine read_n rfl ?_; intro N hN; go_big_quiet_op; go_big_quiet_on)
          | (refine pure_g rfl rfl rfl rfl ?_; intro N hN; go_big_quiet_op; go_big_quiet_on)
          | (refine read_g rfl rfl rfl rfl ?_; intro N hN; go_big_quiet_op; go_big_quiet_on)
          | (refine skip_g rfl rfl rfl rfl ?_; simp only [Act.put, List.setIfInBounds_toArray, List.set_cons_zero, List.set_cons_succ]))
        refine plan_nil ?_
        have c4 : wr.drew.cell? ⟨E, 4, none⟩ = some (.int .i64 (Lc.got : Nat)) := (Hc.out.row.drew).cell 4 (by show 4 < 6; decide)
        have z4 : wr.drew.frozen? ⟨E, 4, none⟩ = false := (Hc.out.row.drew).frozen 4
        go_wp2
        have hearl := Hc.out.ok.early _ _ Hs.out
        obtain ⟨f', rfl⟩ : ∃ f', f = f' + 1 := ⟨f - 1, by have := Hf.out.1; omega⟩
        have hrq := Hc.out.row.set 4 (.int .i64 ((Lc.got : Int) + 1))
        have hmq := Hc.out.map.kept (grown_at wr E 4 (.int .i64 ((Lc.got : Int) + 1))) (fun e => Hc.out.neM (Option.some.inj e).symm)
        generalize hq : wr.setCell ⟨E, 4, none⟩ (.int .i64 ((Lc.got : Int) + 1)) = wq at *
        obtain ⟨W2, hdel, hm2, hg2⟩ := (show Mp wq.drew.drew M _ _ from hmq.heap rfl).drop (x := (Lc.got : Int) + 1) ⟨by omega, by omega⟩ 0
        have HG2 := Lib.hid (grown_und (grown_und hg2))
        have HM2 := Lib.hid hm2
        have q5 : ∀ u, (wplus wq u).cell? ⟨E, 5, none⟩ = some (.map (some M)) := fun u => (hrq.plus u).cell 5 (by show 5 < 6; decide)
        have q4 : ∀ u, (wplus wq u).cell? ⟨E, 4, none⟩ = some (.int .i64 ((Lc.got : Int) + 1)) := fun u => (hrq.plus u).cell 4 (by show 4 < 6; decide)
        clear f4 f5 hl c4 z4 hmq hrq hg2 hm2
        refine wp_region_plan [8] (.step 0 .pure (.step 1 .pure (.step 2 .pure (.step 3 .read (.step 4 .pure (.step 5 .pure (.step 6 .pure (.step 7 .read (.step 8 (.eff true) (.fin)))))))))) (by kernel_rfl) (by kernel_rfl) ((Ext.refl wq).drew) ?_
        simp only [pickOps, List.getD_cons_zero, List.getD_cons_succ]
        repeat (first
          | (refine pure_n rfl ?_; intro N hN; go_big_quiet_op; go_big_quiet_on)
          | (refine read_n rfl ?_; intro N hN; go_big_quiet_op; go_big_quiet_on)
          | (refine pure_g rfl rfl rfl rfl ?_; intro N hN; go_big_quiet_op; go_big_quiet_on)
          | (refine read_g rfl rfl rfl rfl ?_; intro N hN; go_big_quiet_op; go_big_quiet_on)
          | (refine skip_g rfl rfl rfl rfl ?_; simp only [Act.put, List.setIfInBounds_toArray, List.set_cons_zero, List.set_cons_succ]))
        refine eff_n rfl ?_
        intro N hN
        go_big_op
        refine hN _ _ _ (fun h => by cases h) (Ext.refl _) ?_
        refine plan_nil ?_
        subst hq
        obtain ⟨hS, hMS⟩ := Hc.out.stepped Hs.out HG2.out HM2.out
        have HS := Lib.hid hS
        have HMS := Lib.hid hMS
        clear hS hMS hdel q4 q5
        have ho2 := HMS.out.own Ho.out (fun k hk hf => by have := (Ho.out.lt k hk).1; have := hlow k hf; omega)
        have hsz2 := (Hm.out.size)
        have hsz3 := (HMS.out.size)
        go_wp2_with (at_builtin; go_loud (refine wpList_append_G rfl _ _ 44 rfl _ 9 (.string ByteArray.empty) 1 16 Tryd.underlying44 (by kernel_rfl) rfl (by decide) (ho2.alloc _) rfl [_] rfl rfl (new_cells _ _ _) (by simp [Value.oneCell']) (by (have := Hf.out.2); simp only [maxLen]; omega) (by (have := Hf.out.2); omega) (by have := (show w.heap.size ≤ W2.heap.size by omega); simp at this ⊢ <;> omega) ?_; intro v3 w3 ho3 hg3))
        have hM3 : Mod (fun k => (Value.slice vi o.length ci).ownBlock = some k ∨ W2.heap.size ≤ k) W2 w3 := ((Mod.of_ext ((Ext.refl W2).alloc _)).grown hg3 (fun k hk => .inl (.inl hk)))
        refine ⟨⟨f', _, o ++ [s], Lib.hid (HS.out.mod hM3 (fun k hk hf => ?_)), Lib.hid ?_, Lib.hid ((Hm.out.trans HMS.out (fun _ h => .inl h)).trans hM3 (fun k hk => .inr ?_)), Lib.hid ?_, Lib.hid ⟨?_, ?_⟩⟩, ?_⟩
        · have h1 := hlow k hk
          rcases hf with hf | hf
          · have := (Ho.out.lt k hf).1; omega
          · omega
        · have : svals (o ++ [s]) = svals o ++ [Value.string s] := by unfold svals; rw [List.map_append]; rfl
          rw [this, List.length_append]
          exact ho3
        · rcases hk with hk | hk
          · exact (Ho.out.lt k hk).1
          · omega
        · rw [Hd.out, drain_some Hs.out, List.append_assoc]; rfl
        · have := Hf.out.1; show 101 ≤ f' + (Lc.got + 1); omega
        · have := Hf.out.2; rw [List.length_append]; show o.length + 1 ≤ Lc.got + 1; omega
        · have := Hf.out.2; rw [ho3.lenV, lenV_slice]; omega
end Go.Proofs.YtjamakapkpkfeaaDoor
