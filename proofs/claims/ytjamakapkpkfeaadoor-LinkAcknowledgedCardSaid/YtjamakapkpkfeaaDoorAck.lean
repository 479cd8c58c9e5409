/- Contract of the law LinkAcknowledged. -/
import Derived.Test.YtjamakapkpkfeaaDoorAgain
namespace Go.Proofs.YtjamakapkpkfeaaDoor
open Go.RowKit Go.Shelf Sha

set_option maxRecDepth 100000 in
set_option maxHeartbeats 4000000 in
theorem linkAck_any (w : World) (ht : Tab w) {v : Value} {n : Nat} {x : Nat → Nat → Int} (hops : Ops w v n x) :
    Calls Tryd.prog 6 #[v] w fun e w' => e = .returned (.bool true) ∧ Ext w w' := by
  have HO := Lib.hid hops
  obtain ⟨p, c, rfl, _⟩ := hops
  have HB1 := Lib.hid (busy_any w ht HO.out)
  have Hnet := Lib.hid (busy_net x (min n 12) (by omega)).1
  go_enter Tryd.func6, Tryd.ntmps6
  generalize busyM x (min n 12) = M at *
  go_wp2_with (go_at_call 39; with_reducible refine HB1.out.mono ?_; rintro e w1 ⟨E, fp, rfl, hE1, hT1⟩)
  have ht1 := ht.ext hE1
  clear HB1
  go_wp2_with (go_at_call 14; refine (sane_any _ ht1).mono ?_; rintro e w3 ⟨rfl, hE3⟩)
  have hT1 := Lib.hid (hT1.ext hE3)
  have hEw := hE1.trans hE3
  clear hE1 hE3 ht1
  have N1 := (Hnet.out.at (n := 0) (by omega))
  have k1 := N1.ab.acked
  have k2 := N1.ab.got
  have k3 := N1.ba.acked
  have k4 := N1.ba.got
  have k5 := N1.okA.acked
  have k6 := N1.okB.acked
  have k7 := N1.okA.sent
  have k8 := N1.okB.sent
  clear N1 Hnet
  have s0 := fun W e => sent_any ((hT1.out.ext (W' := W) e).here 0 (by omega))
  have s1 := fun W e => sent_any ((hT1.out.ext (W' := W) e).here 1 (by omega))
  have q0 := fun W e => waiting_any ((hT1.out.ext (W' := W) e).here 0 (by omega))
  have q1 := fun W e => waiting_any ((hT1.out.ext (W' := W) e).here 1 (by omega))
  have r0 := fun W e => received_any ((hT1.out.ext (W' := W) e).here 0 (by omega))
  have r1 := fun W e => received_any ((hT1.out.ext (W' := W) e).here 1 (by omega))
  simp only [Nat.sub_zero, Nat.sub_self] at k1 k2 k3 k4 k6 k8
  generalize (M 0).sent.length = n0 at *
  generalize (M 1).sent.length = n1 at *
  generalize (M 0).acked = a0 at *
  generalize (M 1).acked = a1 at *
  generalize (M 0).got = g0 at *
  generalize (M 1).got = g1 at *
  have S0 := Lib.hid s0
  have S1 := Lib.hid s1
  have Q0 := Lib.hid q0
  have Q1 := Lib.hid q1
  have R0 := Lib.hid r0
  have R1 := Lib.hid r1
  clear s0 s1 q0 q1 r0 r1
  have hX : Ext w3 w3 := Ext.refl _
  go_wp2_with (first
    | (go_at_call 31; (first | with_reducible refine (S0.out _ hX).mono ?_ | with_reducible refine (S1.out _ hX).mono ?_); rintro e w4 ⟨rfl, hE4⟩; replace hX := hX.trans hE4; clear hE4)
    | (go_at_call 33; (first | with_reducible refine (Q0.out _ hX).mono ?_ | with_reducible refine (Q1.out _ hX).mono ?_); rintro e w4 ⟨rfl, hE4⟩; replace hX := hX.trans hE4; clear hE4)
    | (go_at_call 35; (first | with_reducible refine (R0.out _ hX).mono ?_ | with_reducible refine (R1.out _ hX).mono ?_); rintro e w4 ⟨rfl, hE4⟩; replace hX := hX.trans hE4; clear hE4))
  all_goals first
    | (exfalso; omega)
    | (go_ret; exact ⟨by kernel_rfl, hEw.trans hX⟩)
    | trace_state
end Go.Proofs.YtjamakapkpkfeaaDoor
