/- Contract of the law LinkOut. -/
import Derived.Test.YtjamakapkpkfeaaDoorAgain
import Derived.Test.YtjamakapkpkfeaaDoorOutP
namespace Go.Proofs.YtjamakapkpkfeaaDoor
open Go.RowKit Go.Shelf Sha

set_option maxRecDepth 100000 in
set_option maxHeartbeats 4000000 in
theorem linkOut_any (w : World) (ht : Tab w) {v : Value} {n : Nat} {x : Nat → Nat → Int} (hops : Ops w v n x) :
    Calls Tryd.prog 9 #[v] w fun e w' => e = .returned (.bool true) ∧ Ext w w' := by
  have HO := Lib.hid hops
  obtain ⟨p, c, rfl, _⟩ := hops
  have HB1 := Lib.hid (busy_any w ht HO.out)
  have Hnet := Lib.hid (busy_net x (min n 12) (by omega)).1
  have Hkey := Lib.hid (busy_key x (min n 12) (by omega) 0 (by omega))
  go_enter Tryd.func9, Tryd.ntmps9
  generalize busyM x (min n 12) = M at *
  go_wp2_with (go_at_call 39; with_reducible refine HB1.out.mono ?_; rintro e w1 ⟨E, fp, rfl, hE1, hT1⟩)
  have ht1 := ht.ext hE1
  clear HB1
  go_wp2_with (go_at_call 14; refine (sane_any _ ht1).mono ?_; rintro e w3 ⟨rfl, hE3⟩)
  have hT1 := Lib.hid (hT1.ext hE3)
  have ht3 := Lib.hid (ht1.ext hE3)
  have hEw := hE1.trans hE3
  clear hE1 hE3 ht1
  have a0 : ∀ W, Ext w3 W → EndAt W (fp 0) (E 0) (M 0) := fun W e => (hT1.out.ext e).here 0 (by omega)
  have hok := (Hnet.out.at (n := 0) (by omega)).okA
  have Hok := Lib.hid hok
  have k5 := hok.acked
  have k7 := hok.sent
  have hol := out_size (M 0)
  have hle := out_le (M 0)
  have hpos := out_pos _ hok
  clear hok
  have s0 := fun W e => sent_any (a0 W e)
  have s1 := fun W (e : Ext w3 W) => sent_any ((hT1.out.ext (W' := W) e).here 1 (by omega))
  have q0 := fun W e => waiting_any (a0 W e)
  have r0 := fun W e => received_any (a0 W e)
  have u0 := fun W e => outS_any (a0 W e) (ht3.out.ext e)
  have hser : ∀ (k : Nat) (pk : Pkt), (M 0).out[k]? = some pk → pk.ser = (if (M 0).acked = (M 0).sent.length then 0 else ((M 0).acked : Int) + k + 1) ∧ pk.ack = ((M 0).got : Int) ∧ decide (Genuine (keyAt 0) pk) = true := fun k pk h =>
    ⟨out_ser h, out_ack (List.mem_of_getElem? h), decide_eq_true (by have := (sound_out Hok.out (List.mem_of_getElem? h)).genuine Hok.out; rw [Hkey.out] at this; exact this)⟩
  generalize (M 0).sent.length = n0 at *
  generalize (M 0).acked = c0 at *
  generalize (M 0).got = g0 at *
  have S0 := Lib.hid s0
  have S1 := Lib.hid s1
  have Q0 := Lib.hid q0
  have R0 := Lib.hid r0
  have U0 := Lib.hid u0
  have Hser := Lib.hid hser
  clear s0 s1 q0 r0 u0 hser a0 Hkey Hnet Hok
  have Hol := Lib.hid hol
  clear hol
  generalize (M 0).out = out at *
  have Hll : Hid (∃ m, out.length = m) := Lib.hid ⟨_, rfl⟩
  generalize hll : out.length = ol at *
  have Hll := Lib.hid hll
  clear hll
  go_wp2_with (go_at_call 22; with_reducible refine (U0.out _ (Ext.refl _)).mono ?_; rintro e w4 ⟨p4, c4, rfl, hS4, hE4, _⟩)
  have hX4 : Ext w3 w4 := hE4
  go_wp2_with (go_at_call 22; with_reducible refine (U0.out _ hX4).mono ?_; rintro e w5 ⟨p5, c5, rfl, hS5, hE5, _⟩)
  have HSm := Lib.hid (same_any _ _ hS5 (hS4.ext hE5) (by omega) (by omega))
  go_wp2_with (go_at_call 23; with_reducible refine HSm.out.mono ?_; rintro e w6 ⟨rfl, hE6⟩; rw [decide_eq_true rfl])
  have hX6 := (hX4.trans hE5).trans hE6
  have hS6 := Lib.hid ((hS4.ext hE5).ext hE6)
  clear HSm hS4 hS5 hE4 hE5 hE6 hX4
  go_loopw [7] (fun i wr => ∃ k : Nat, k ≤ ol ∧ i = .int .i64 k ∧ Hid (Sl wr (.slice p4 ol c4) 4 ol (pcells out)) ∧ Ext w3 wr) (fun i _ => ol - (intOf i).toNat)
  case atStart => exact ⟨0, Nat.zero_le _, rfl, hS6, hX6⟩
  case round =>
    clear hS6 hX6
    obtain ⟨k, hk, rfl, hS, hX⟩ := hrel
    by_cases hlt : k < ol
    · obtain ⟨pk, hpk⟩ : ∃ pk, out[k]? = some pk := ⟨_, List.getElem?_eq_getElem (by rw [Hll.out]; exact hlt)⟩
      obtain ⟨hps, hpa, hpg⟩ := Hser.out k pk hpk
      have HGen := Lib.hid (fun W hW => genuine_any (keyAt 0) pk W hW)
      rw [hpg] at HGen
      clear hpg
      obtain ⟨_, _, _, h1, h2⟩ := hS.out
      obtain ⟨g2, h3, _⟩ := h2 (by omega)
      cases h1; subst h3
      clear h2
      have Hpk := Lib.hid hpk
      clear hpk
      obtain ⟨ps, pa, pb, pz⟩ := pk
      unfold Pkt.val Pkt.cells at *
      dsimp only at hps hpa
      subst hpa
      by_cases hw : c0 = n0
      · subst hw
        rw [if_pos rfl] at hps
        subst hps
        go_wp2_with (first
          | (go_at_call 31; with_reducible refine (S0.out _ hX).mono ?_; rintro e w4 ⟨rfl, hE4⟩; have hX := hX.trans hE4; have hS := Lib.hid (hS.out.ext hE4); clear hE4)
          | (go_at_call 33; with_reducible refine (Q0.out _ hX).mono ?_; rintro e w4 ⟨rfl, hE4⟩; have hX := hX.trans hE4; have hS := Lib.hid (hS.out.ext hE4); clear hE4))
        have hc := hS.out.pkt' (l := out) (show 0 < ol by omega) Hpk.out
        have o0 : ∀ u, (wplus w4 u).cell? ⟨g2, k * 4, none⟩ = some (.int .i64 0) := fun u => (ext_wplus w4 u).cell (hc 0 (by decide))
        have o1 : ∀ u, (wplus w4 u).cell? ⟨g2, k * 4 + 1, none⟩ = some (.int .i64 (g0 : Nat)) := fun u => (ext_wplus w4 u).cell (hc 1 (by decide))
        have o2 : ∀ u, (wplus w4 u).cell? ⟨g2, k * 4 + 2, none⟩ = some (.string pb) := fun u => (ext_wplus w4 u).cell (hc 2 (by decide))
        have o3 : ∀ u, (wplus w4 u).cell? ⟨g2, k * 4 + 3, none⟩ = some (.string pz) := fun u => (ext_wplus w4 u).cell (hc 3 (by decide))
        clear hc
        refine wp_region_plan [] (.step 0 .pure (.step 1 .pure (.step 2 .pure (.step 3 .pure (.step 4 .read (.step 5 .pure (.step 6 .pure (.step 7 .pure (.step 8 .pure (.step 9 .pure (.step 10 .pure (.step 11 .pure (.step 12 .read (.step 13 .pure (.step 14 (.eff false) (.step 15 .pure (.step 16 .pure (.step 17 .pure (.step 19 .pure (.step 20 .pure (.step 21 .pure (.step 22 .read (.step 18 (.eff false) (.step 23 (.eff false) (.step 24 .pure (.step 25 .pure (.fin))))))))))))))))))))))))))) (by kernel_rfl) (by kernel_rfl) (Ext.refl w4) ?_
        simp only [pickOps, List.getD_cons_zero, List.getD_cons_succ]
        repeat (first
          | (refine pure_n rfl ?_; intro N hN; go_big_quiet_op; go_big_quiet_on)
          | (refine read_n rfl ?_; intro N hN; go_big_quiet_op; go_big_quiet_on)
          | (refine pure_g rfl rfl rfl rfl ?_; intro N hN; go_big_quiet_op; go_big_quiet_on)
          | (refine read_g rfl rfl rfl rfl ?_; intro N hN; go_big_quiet_op; go_big_quiet_on)
          | (refine skip_g rfl rfl rfl rfl ?_; simp only [Act.put, List.setIfInBounds_toArray, List.set_cons_zero, List.set_cons_succ]))
        refine eff_g rfl rfl rfl rfl ?_
        intro N hN
        go_big_op
        refine (R0.out _ hX.drew).mono ?_
        rintro e wa ⟨rfl, hEa⟩
        have hF1 := (Ext.refl w4).drew.trans hEa
        refine hN _ w4 wa (fun _ => Ext.refl _) hF1 ?_
        repeat (first
          | (refine pure_n rfl ?_; intro N hN; go_big_quiet_op; go_big_quiet_on)
          | (refine read_n rfl ?_; intro N hN; go_big_quiet_op; go_big_quiet_on)
          | (refine pure_g rfl rfl rfl rfl ?_; intro N hN; go_big_quiet_op; go_big_quiet_on)
          | (refine read_g rfl rfl rfl rfl ?_; intro N hN; go_big_quiet_op; go_big_quiet_on)
          | (refine skip_g rfl rfl rfl rfl ?_; simp only [Act.put, List.setIfInBounds_toArray, List.set_cons_zero, List.set_cons_succ]))
        refine eff_g rfl rfl rfl rfl ?_
        intro N hN
        go_big_op
        refine (key0_any _).mono ?_
        rintro e wb ⟨rfl, hEb⟩
        have hF2 := hF1.trans hEb
        refine hN _ w4 wb (fun _ => Ext.refl _) hF2 ?_
        repeat (first
          | (refine pure_n rfl ?_; intro N hN; go_big_quiet_op; go_big_quiet_on)
          | (refine read_n rfl ?_; intro N hN; go_big_quiet_op; go_big_quiet_on)
          | (refine pure_g rfl rfl rfl rfl ?_; intro N hN; go_big_quiet_op; go_big_quiet_on)
          | (refine read_g rfl rfl rfl rfl ?_; intro N hN; go_big_quiet_op; go_big_quiet_on)
          | (refine skip_g rfl rfl rfl rfl ?_; simp only [Act.put, List.setIfInBounds_toArray, List.set_cons_zero, List.set_cons_succ]))
        refine eff_g rfl rfl rfl rfl ?_
        intro N hN
        go_big_op
        refine (HGen.out _ ((ht3.out.ext hX).ext hF2)).mono ?_
        rintro e wc ⟨rfl, hEc⟩
        have hF3 := hF2.trans hEc
        refine hN _ w4 wc (fun _ => Ext.refl _) hF3 ?_
        repeat (first
          | (refine pure_n rfl ?_; intro N hN; go_big_quiet_op; go_big_quiet_on)
          | (refine read_n rfl ?_; intro N hN; go_big_quiet_op; go_big_quiet_on)
          | (refine pure_g rfl rfl rfl rfl ?_; intro N hN; go_big_quiet_op; go_big_quiet_on)
          | (refine read_g rfl rfl rfl rfl ?_; intro N hN; go_big_quiet_op; go_big_quiet_on)
          | (refine skip_g rfl rfl rfl rfl ?_; simp only [Act.put, List.setIfInBounds_toArray, List.set_cons_zero, List.set_cons_succ]))
        refine plan_nil ?_
        go_wp2
        exact ⟨⟨k + 1, by omega, by go_num, Lib.hid (hS.out.ext hF3), hX.trans hF3⟩, by simp [intOf]; omega⟩
      · rw [if_neg hw] at hps
        subst hps
        have hne : ((n0 : Int) - (c0 : Int) == 0) = false := by simp; omega
        go_wp2_with (first
          | (go_at_call 31; with_reducible refine (S0.out _ hX).mono ?_; rintro e w4 ⟨rfl, hE4⟩; have hX := hX.trans hE4; have hS := Lib.hid (hS.out.ext hE4); clear hE4)
          | (go_at_call 33; with_reducible refine (Q0.out _ hX).mono ?_; rintro e w4 ⟨rfl, hE4⟩; have hX := hX.trans hE4; have hS := Lib.hid (hS.out.ext hE4); clear hE4))
        rw [show (n0 : Int) - ((n0 : Int) - (c0 : Int)) = c0 by omega]
        have hc := hS.out.pkt' (l := out) (show 0 < ol by omega) Hpk.out
        have o0 : ∀ u, (wplus w4 u).cell? ⟨g2, k * 4, none⟩ = some (.int .i64 ((c0 : Int) + k + 1)) := fun u => (ext_wplus w4 u).cell (hc 0 (by decide))
        have o1 : ∀ u, (wplus w4 u).cell? ⟨g2, k * 4 + 1, none⟩ = some (.int .i64 (g0 : Nat)) := fun u => (ext_wplus w4 u).cell (hc 1 (by decide))
        have o2 : ∀ u, (wplus w4 u).cell? ⟨g2, k * 4 + 2, none⟩ = some (.string pb) := fun u => (ext_wplus w4 u).cell (hc 2 (by decide))
        have o3 : ∀ u, (wplus w4 u).cell? ⟨g2, k * 4 + 3, none⟩ = some (.string pz) := fun u => (ext_wplus w4 u).cell (hc 3 (by decide))
        clear hc
        refine wp_region_plan [] (.step 0 .pure (.step 1 .pure (.step 2 .pure (.step 3 .pure (.step 4 .read (.step 5 .pure (.step 6 .pure (.step 7 .pure (.step 8 .pure (.step 9 .pure (.step 10 .pure (.step 11 .pure (.step 12 .read (.step 13 .pure (.step 14 (.eff false) (.step 15 .pure (.step 16 .pure (.step 17 .pure (.step 19 .pure (.step 20 .pure (.step 21 .pure (.step 22 .read (.step 18 (.eff false) (.step 23 (.eff false) (.step 24 .pure (.step 25 .pure (.fin))))))))))))))))))))))))))) (by kernel_rfl) (by kernel_rfl) (Ext.refl w4) ?_
        simp only [pickOps, List.getD_cons_zero, List.getD_cons_succ]
        repeat (first
          | (refine pure_n rfl ?_; intro N hN; go_big_quiet_op; go_big_quiet_on)
          | (refine read_n rfl ?_; intro N hN; go_big_quiet_op; go_big_quiet_on)
          | (refine pure_g rfl rfl rfl rfl ?_; intro N hN; go_big_quiet_op; go_big_quiet_on)
          | (refine read_g rfl rfl rfl rfl ?_; intro N hN; go_big_quiet_op; go_big_quiet_on)
          | (refine skip_g rfl rfl rfl rfl ?_; simp only [Act.put, List.setIfInBounds_toArray, List.set_cons_zero, List.set_cons_succ]))
        refine eff_g rfl rfl rfl rfl ?_
        intro N hN
        go_big_op
        refine (R0.out _ hX.drew).mono ?_
        rintro e wa ⟨rfl, hEa⟩
        have hF1 := (Ext.refl w4).drew.trans hEa
        refine hN _ w4 wa (fun _ => Ext.refl _) hF1 ?_
        repeat (first
          | (refine pure_n rfl ?_; intro N hN; go_big_quiet_op; go_big_quiet_on)
          | (refine read_n rfl ?_; intro N hN; go_big_quiet_op; go_big_quiet_on)
          | (refine pure_g rfl rfl rfl rfl ?_; intro N hN; go_big_quiet_op; go_big_quiet_on)
          | (refine read_g rfl rfl rfl rfl ?_; intro N hN; go_big_quiet_op; go_big_quiet_on)
          | (refine skip_g rfl rfl rfl rfl ?_; simp only [Act.put, List.setIfInBounds_toArray, List.set_cons_zero, List.set_cons_succ]))
        refine eff_g rfl rfl rfl rfl ?_
        intro N hN
        go_big_op
        refine (key0_any _).mono ?_
        rintro e wb ⟨rfl, hEb⟩
        have hF2 := hF1.trans hEb
        refine hN _ w4 wb (fun _ => Ext.refl _) hF2 ?_
        repeat (first
          | (refine pure_n rfl ?_; intro N hN; go_big_quiet_op; go_big_quiet_on)
          | (refine read_n rfl ?_; intro N hN; go_big_quiet_op; go_big_quiet_on)
          | (refine pure_g rfl rfl rfl rfl ?_; intro N hN; go_big_quiet_op; go_big_quiet_on)
          | (refine read_g rfl rfl rfl rfl ?_; intro N hN; go_big_quiet_op; go_big_quiet_on)
          | (refine skip_g rfl rfl rfl rfl ?_; simp only [Act.put, List.setIfInBounds_toArray, List.set_cons_zero, List.set_cons_succ]))
        refine eff_g rfl rfl rfl rfl ?_
        intro N hN
        go_big_op
        refine (HGen.out _ ((ht3.out.ext hX).ext hF2)).mono ?_
        rintro e wc ⟨rfl, hEc⟩
        have hF3 := hF2.trans hEc
        refine hN _ w4 wc (fun _ => Ext.refl _) hF3 ?_
        repeat (first
          | (refine pure_n rfl ?_; intro N hN; go_big_quiet_op; go_big_quiet_on)
          | (refine read_n rfl ?_; intro N hN; go_big_quiet_op; go_big_quiet_on)
          | (refine pure_g rfl rfl rfl rfl ?_; intro N hN; go_big_quiet_op; go_big_quiet_on)
          | (refine read_g rfl rfl rfl rfl ?_; intro N hN; go_big_quiet_op; go_big_quiet_on)
          | (refine skip_g rfl rfl rfl rfl ?_; simp only [Act.put, List.setIfInBounds_toArray, List.set_cons_zero, List.set_cons_succ]))
        refine plan_nil ?_
        go_wp2
        exact ⟨⟨k + 1, by omega, by go_num, Lib.hid (hS.out.ext hF3), hX.trans hF3⟩, by simp [intOf]; omega⟩
    · have hk' : k = ol := by omega
      subst hk'
      have hfin : ((k : Int) == max (min ((n0 : Int) - (c0 : Int)) 4) 1) = true := by
        have := Hol.out
        rw [beq_iff_eq]
        split at this <;> omega
      go_wp2_with (first
        | (go_at_call 31; with_reducible refine (S1.out _ hX).mono ?_; rintro e w4 ⟨rfl, hE4⟩; have hX := hX.trans hE4; clear hE4)
        | (go_at_call 33; with_reducible refine (Q0.out _ hX).mono ?_; rintro e w4 ⟨rfl, hE4⟩; have hX := hX.trans hE4; clear hE4))
      all_goals first
        | (go_ret; exact ⟨by kernel_rfl, hEw.trans hX⟩)
        | trace_state
end Go.Proofs.YtjamakapkpkfeaaDoor
