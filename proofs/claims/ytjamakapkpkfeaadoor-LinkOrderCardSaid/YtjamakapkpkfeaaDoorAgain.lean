/- Contract of the law LinkAgain. -/
import Derived.Test.YtjamakapkpkfeaaDoorBusy
import Derived.Test.YtjamakapkpkfeaaDoorSane
namespace Go.Proofs.YtjamakapkpkfeaaDoor
open Go.RowKit Go.Shelf Sha

theorem outS_any {w : World} {fp : Nat → Prop} {E : Nat} {L : Lk} (h : EndAt w fp E L) (ht : Tab w) :
    Calls Tryd.prog 22 #[.pointer (some ⟨E, 0, none⟩)] w fun e w' => ∃ p c, e = .returned (.slice p L.out.length c) ∧ Sl w' (.slice p L.out.length c) 4 L.out.length (pcells L.out) ∧ Ext w w' ∧ (∀ g, (Value.slice p L.out.length c).ownBlock = some g → w.heap.size ≤ g) := by
  refine (out_any h ht).mono ?_
  rintro e w' ⟨v, rfl, ho, hE⟩
  obtain ⟨p, c, rfl, _⟩ := (toOwn ho).form'
  exact ⟨p, c, rfl, (toOwn ho).sl, hE, fun g hg => ((toOwn ho).lt g hg).1⟩

set_option maxRecDepth 100000 in
set_option maxHeartbeats 4000000 in
theorem linkAgain_any (w : World) (ht : Tab w) {v : Value} {n : Nat} {x : Nat → Nat → Int} (hops : Ops w v n x) :
    Calls Tryd.prog 11 #[v] w fun e w' => e = .returned (.bool true) ∧ Ext w w' := by
  have HO := Lib.hid hops
  obtain ⟨p, c, rfl, _⟩ := hops
  have HB1 := Lib.hid (busy_any w ht HO.out)
  go_enter Tryd.func11, Tryd.ntmps11
  go_wp2_with (go_at_call 39; with_reducible refine HB1.out.mono ?_; rintro e w1 ⟨E, fp, rfl, hE1, hT1⟩)
  have HB2 := Lib.hid (busy_any w1 (ht.ext hE1) (HO.out.ext hE1))
  generalize busyM x (min n 12) = M at *
  go_wp2_with (go_at_call 39; with_reducible refine HB2.out.mono ?_; rintro e w2 ⟨E2, fp2, rfl, hE2, hT2⟩)
  have ht2 := (ht.ext hE1).ext hE2
  clear HB1 HB2
  go_wp2_with (go_at_call 14; refine (sane_any _ ht2).mono ?_; rintro e w3 ⟨rfl, hE3⟩)
  have hT1 := Lib.hid ((hT1.ext hE2).ext hE3)
  have hT2 := Lib.hid (hT2.ext hE3)
  have ht3 := Lib.hid (ht2.ext hE3)
  have hEw := (hE1.trans hE2).trans hE3
  clear hE1 hE2 hE3 ht2
  have a0 : ∀ W, Ext w3 W → EndAt W (fp 0) (E 0) (M 0) := fun W e => (hT1.out.ext e).here 0 (by omega)
  have a1 : ∀ W, Ext w3 W → EndAt W (fp 1) (E 1) (M 1) := fun W e => (hT1.out.ext e).here 1 (by omega)
  have c0 : ∀ W, Ext w3 W → EndAt W (fp2 0) (E2 0) (M 0) := fun W e => (hT2.out.ext e).here 0 (by omega)
  have c1 : ∀ W, Ext w3 W → EndAt W (fp2 1) (E2 1) (M 1) := fun W e => (hT2.out.ext e).here 1 (by omega)
  have hX : Ext w3 w3 := Ext.refl _
  go_wp2_with (first
    | (go_at_call 31; (first | with_reducible refine (sent_any (a0 _ hX)).mono ?_ | with_reducible refine (sent_any (a1 _ hX)).mono ?_ | with_reducible refine (sent_any (c0 _ hX)).mono ?_ | with_reducible refine (sent_any (c1 _ hX)).mono ?_); rintro e w4 ⟨rfl, hE4⟩; replace hX := hX.trans hE4; clear hE4)
    | (go_at_call 33; (first | with_reducible refine (waiting_any (a0 _ hX)).mono ?_ | with_reducible refine (waiting_any (a1 _ hX)).mono ?_ | with_reducible refine (waiting_any (c0 _ hX)).mono ?_ | with_reducible refine (waiting_any (c1 _ hX)).mono ?_); rintro e w4 ⟨rfl, hE4⟩; replace hX := hX.trans hE4; clear hE4)
    | (go_at_call 35; (first | with_reducible refine (received_any (a0 _ hX)).mono ?_ | with_reducible refine (received_any (a1 _ hX)).mono ?_ | with_reducible refine (received_any (c0 _ hX)).mono ?_ | with_reducible refine (received_any (c1 _ hX)).mono ?_); rintro e w4 ⟨rfl, hE4⟩; replace hX := hX.trans hE4; clear hE4))
  go_wp2_with (go_at_call 22; (with_reducible refine (outS_any (a0 _ hX) (ht3.out.ext hX)).mono ?_; rintro e w1a ⟨pa1, ca1, rfl, hSa1, hEa1, _⟩; have hXa1 := hX.trans hEa1))
  go_wp2_with (go_at_call 22; (with_reducible refine (outS_any (c0 _ hXa1) (ht3.out.ext hXa1)).mono ?_; rintro e w1b ⟨pb1, cb1, rfl, hSb1, hEb1, _⟩; have hXb1 := hXa1.trans hEb1))
  have hle1 := out_le (M 0)
  have HSm1 := Lib.hid (same_any _ _ (hSa1.ext hEb1) hSb1 (by omega) (by omega))
  go_wp2_with (go_at_call 23; (with_reducible refine HSm1.out.mono ?_; rintro e w1c ⟨rfl, hEc1⟩; rw [decide_eq_true rfl]; have hXc1 := hXb1.trans hEc1))
  go_wp2_with (go_at_call 22; (with_reducible refine (outS_any (a1 _ hXc1) (ht3.out.ext hXc1)).mono ?_; rintro e w2a ⟨pa2, ca2, rfl, hSa2, hEa2, _⟩; have hXa2 := hXc1.trans hEa2))
  go_wp2_with (go_at_call 22; (with_reducible refine (outS_any (c1 _ hXa2) (ht3.out.ext hXa2)).mono ?_; rintro e w2b ⟨pb2, cb2, rfl, hSb2, hEb2, _⟩; have hXb2 := hXa2.trans hEb2))
  have hle2 := out_le (M 1)
  have HSm2 := Lib.hid (same_any _ _ (hSa2.ext hEb2) hSb2 (by omega) (by omega))
  go_wp2_with (go_at_call 23; (with_reducible refine HSm2.out.mono ?_; rintro e w2c ⟨rfl, hEc2⟩; rw [decide_eq_true rfl]; have hXc2 := hXb2.trans hEc2))
  go_ret
  exact ⟨by kernel_rfl, hEw.trans hXc2⟩
end Go.Proofs.YtjamakapkpkfeaaDoor
