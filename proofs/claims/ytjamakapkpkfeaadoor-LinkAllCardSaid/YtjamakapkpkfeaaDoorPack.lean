/- The packets that an end yields: contracts of packets and of its iterator. -/
import Derived.Test.YtjamakapkpkfeaaDoorPlanIn
namespace Go.Proofs.YtjamakapkpkfeaaDoor
open Go.RowKit Go.Shelf Sha
attribute [local go_sem] Oper.semAt_some

/-- The packets of an end, without seals. -/
def Lk.bare (L : Lk) : List Pkt :=
  if L.acked = L.sent.length then [⟨0, L.got, ⟨#[]⟩, ⟨#[]⟩⟩]
  else (List.range (min 4 (L.sent.length - L.acked))).map fun i : Nat => ⟨(L.acked : Int) + (i : Int) + 1, L.got, (L.sent[L.acked + i]?).getD ⟨#[]⟩, ⟨#[]⟩⟩

set_option maxRecDepth 100000 in
set_option maxHeartbeats 1000000 in
theorem packets_seq {w : World} {fp : Nat → Prop} {E B : Nat} {L : Lk} {v : Value} {M : Nat} (h : EndAt' w fp E L v M) (hB : w.cell? ⟨B, 0, none⟩ = some (.pointer (some ⟨E, 0, none⟩))) (p q : Nat → Prop) (hpB : p B) (hpE : p E) (hpV : ∀ k, v.ownBlock = some k → p k) :
    Seq Tryd.prog 56 #[.pointer (some ⟨B, 0, none⟩)] (fun x : Pkt => #[x.val]) p q L.bare w := by
  intro l J Jx W hE hJ hJx hY h0
  refine callsIn_of_wp Tryd.func56 rfl trivial ?_ rfl
  have hok := h.ok
  have d0 := hE.cell hB
  have dE := h.row.ext hE
  have dV := h.own.ext hE
  obtain ⟨p0, cap, rfl, hcap⟩ := dV.form'
  clear h hB hE
  simp only [Tryd.ntmps56, List.size_toArray, List.length_cons, List.length_nil, Nat.reduceAdd, Nat.reduceSub, Array.replicate_succ, Array.replicate_zero, List.push_toArray, List.append_toArray, List.nil_append, List.cons_append]
  have f0 : ∀ u, (wplus W u).cell? ⟨B, 0, none⟩ = some (.pointer (some ⟨E, 0, none⟩)) := fun u => (ext_wplus W u).cell d0
  have f2 : ∀ u, (wplus W u).cell? ⟨E, 2, none⟩ = some (.slice p0 L.sent.length cap) := fun u => (dE.plus u).cell 2 (by show 2 < 6; decide)
  have f3 : ∀ u, (wplus W u).cell? ⟨E, 3, none⟩ = some (.int .i64 (L.acked : Nat)) := fun u => (dE.plus u).cell 3 (by show 3 < 6; decide)
  have e0 : W.drew.cell? ⟨B, 0, none⟩ = some (.pointer (some ⟨E, 0, none⟩)) := d0
  have e4 : W.drew.cell? ⟨E, 4, none⟩ = some (.int .i64 (L.got : Nat)) := dE.cell 4 (by show 4 < 6; decide)
  have hJd : J 0 W.drew := hJ _ _ _ none h0 ⟨rfl, rfl, rfl, Nat.le_refl _, fun _ _ _ => rfl⟩ (by simp)
  gi_wp2
  refine wpIn_wide.2 ?_
  refine wp_region_plan [] (.step 0 .read (.step 1 .pure (.step 2 .pure (.step 3 .read (.step 4 .read (.step 5 .pure (.step 6 .pure (.step 7 .read (.step 8 .pure (.step 9 .pure (.fin))))))))))) (by kernel_rfl) (by kernel_rfl) (Ext.refl W) ?_
  simp only [pickOps, List.getD_cons_zero, List.getD_cons_succ]
  repeat (first
    | (refine plan_pure (by rfl) ?_; intro N hN; go_big_quiet_op; go_big_quiet_on)
    | (refine plan_read (by rfl) ?_; intro N hN; go_big_quiet_op; go_big_quiet_on)
    | (refine plan_skip (by rfl) ?_; simp only [Act.put, List.setIfInBounds_toArray, List.set_cons_zero, List.set_cons_succ]))
  refine plan_nil ?_
  by_cases hcmp : L.acked = L.sent.length
  · have hx : L.bare[0]? = some ⟨0, L.got, ⟨#[]⟩, ⟨#[]⟩⟩ := by unfold Lk.bare; rw [if_pos hcmp]; rfl
    obtain ⟨fn, tmps, assign, body, hy, hR⟩ := hY 0 _ W.drew hx hJd
    unfold Pkt.val Pkt.cells at hy
    dsimp only at hy
    gi_wp2
    refine ⟨rfl, hR.mono ?_⟩
    have hbl : L.bare.length = 1 := by unfold Lk.bare; rw [if_pos hcmp]; rfl
    rintro e W3 (⟨rfl, hJ3, hk3⟩ | ⟨rfl, hJx3⟩)
    · gi_wp2
      refine bodyPost_ret (results_none rfl _ _ _) rfl ?_
      exact ⟨⟨_, rfl⟩, .inl (by rw [hbl]; exact hJ3)⟩
    · gi_wp2
      refine bodyPost_ret (results_none rfl _ _ _) rfl ?_
      exact ⟨⟨_, rfl⟩, .inr ⟨1, by rw [hbl]; exact Nat.le_refl _, hJx3⟩⟩
  · have hlt : L.acked < L.sent.length := by have := hok.acked; omega
    have hne : ((L.acked : Int) == (L.sent.length : Int)) = false := by simp; omega
    have hl100 := hok.sent
    obtain ⟨g, cap', hv, _, _, _⟩ := dV.form (by omega)
    cases hv
    gi_wp2
    refine wpIn_wide.2 ?_
    refine wp_region_plan [] (.step 0 .read (.step 1 .pure (.step 2 .pure (.step 3 .read (.step 4 .read (.step 5 .pure (.step 6 .pure (.step 7 .read (.step 8 .read (.step 9 .pure (.step 10 .pure (.step 11 .read (.step 12 .pure (.step 13 .read (.step 14 .pure (.step 15 .pure (.step 16 .read (.step 17 .pure (.step 18 .pure (.step 19 .pure (.step 20 .pure (.step 21 .pure (.fin))))))))))))))))))))))) (by kernel_rfl) (by kernel_rfl) ((Ext.refl W).drew) ?_
    simp only [pickOps, List.getD_cons_zero, List.getD_cons_succ]
    repeat (first
      | (refine plan_pure (by rfl) ?_; intro N hN; go_big_quiet_op; go_big_quiet_on)
      | (refine plan_read (by rfl) ?_; intro N hN; go_big_quiet_op; go_big_quiet_on)
      | (refine plan_skip (by rfl) ?_; simp only [Act.put, List.setIfInBounds_toArray, List.set_cons_zero, List.set_cons_succ]))
    refine plan_nil ?_
    have hcnt : (min ((L.acked : Int) + 4) (L.sent.length : Int)).toNat - L.acked = min 4 (L.sent.length - L.acked) := by omega
    have hcl : L.bare.length = min 4 (L.sent.length - L.acked) := by unfold Lk.bare; rw [if_neg hcmp]; simp
    have hbx : ∀ j, j < min 4 (L.sent.length - L.acked) → L.bare[j]? = some ⟨(L.acked : Int) + (j : Int) + 1, L.got, (L.sent[L.acked + j]?).getD ⟨#[]⟩, ⟨#[]⟩⟩ := by
      intro j hj
      unfold Lk.bare
      rw [if_neg hcmp]
      simp [hj]
    have hca : L.acked + min 4 (L.sent.length - L.acked) ≤ L.sent.length := by omega
    rw [hcnt]
    generalize min 4 (L.sent.length - L.acked) = c at *
    have HX := Lib.hid hbx
    have dg := dV.cells rfl
    have HG := Lib.hid (show ∀ j, j < L.sent.length → W.cell? ⟨g, j, none⟩ = some (.string (L.sent.getD j ⟨#[]⟩)) from fun j hj => dg j _ (by simp [List.getD_eq_getElem?_getD, hj]))
    have hJ2 : J 0 W.drew.drew := hJ _ _ _ none hJd ⟨rfl, rfl, rfl, Nat.le_refl _, fun _ _ _ => rfl⟩ (by simp)
    have hpg : p g := hpV g rfl
    clear f0 f2 f3 e0 e4 hcnt hbx dg hpV hne
    have hK0 : Keeps p W W.drew.drew := (Keeps.refl _ _).drew.drew
    gi_wp2
    gi_loopw [43] (fun i wr => ∃ k : Nat, k ≤ c ∧ i = .int .i64 k ∧ J k wr ∧ Keeps p W wr) (fun i _ => c - (intOf i).toNat)
    case atStart => exact ⟨0, Nat.zero_le _, rfl, hJ2, hK0⟩
    case round =>
      clear hJ2 hK0
      obtain ⟨k, hk, rfl, hJk, hK⟩ := hrel
      by_cases hlk : k < c
      · have g1 := hK.cell (HG.out (L.acked + k) (by omega)) hpg
        have dE2 := hK.row dE hpE
        have d02 := hK.cell d0 hpB
        have f0 : ∀ u, (wplus wr u).cell? ⟨B, 0, none⟩ = some (.pointer (some ⟨E, 0, none⟩)) := fun u => (ext_wplus wr u).cell d02
        have f3 : ∀ u, (wplus wr u).cell? ⟨E, 3, none⟩ = some (.int .i64 (L.acked : Nat)) := fun u => (dE2.plus u).cell 3 (by show 3 < 6; decide)
        have f4 : ∀ u, (wplus wr u).cell? ⟨E, 4, none⟩ = some (.int .i64 (L.got : Nat)) := fun u => (dE2.plus u).cell 4 (by show 4 < 6; decide)
        have hJkd := hJ _ _ wr.drew none hJk ⟨rfl, rfl, rfl, Nat.le_refl _, fun _ _ _ => rfl⟩ (by simp)
        obtain ⟨fn, tmps, assign, body, hy, hR⟩ := hY k _ wr.drew (HX.out k hlk) hJkd
        unfold Pkt.val Pkt.cells at hy
        dsimp only at hy
        gi_wp2
        refine wpIn_region_plan [14] (.step 0 .pure (.step 1 .read (.step 2 .pure (.step 3 .pure (.step 4 .read (.step 5 .pure (.step 6 .pure (.step 7 .pure (.step 8 .read (.step 9 .pure (.step 10 .pure (.step 11 .read (.step 12 .pure (.step 13 .pure (.step 14 (.eff true) (.step 15 .pure (.fin))))))))))))))))) (by kernel_rfl) (by kernel_rfl) (Ext.refl wr) ?_
        simp only [pickOps, List.getD_cons_zero, List.getD_cons_succ]
        repeat (first
          | (refine planI_pure (by rfl) ?_; intro N hN; go_big_quiet_op; go_big_quiet_on)
          | (refine planI_read (by rfl) ?_; intro N hN; go_big_quiet_op; go_big_quiet_on)
          | (refine planI_skip (by rfl) ?_; simp only [Act.put, List.setIfInBounds_toArray, List.set_cons_zero, List.set_cons_succ]))
        refine planI_eff (by rfl) ?_
        intro N hN
        gi_wp2
        refine ⟨rfl, hR.mono ?_⟩
        rintro e W3 (⟨rfl, hJ3, hk3⟩ | ⟨rfl, hJx3⟩)
        · refine hN _ W3 W3 (fun h => by cases h) (Ext.refl _) ?_
          repeat (first
            | (refine planI_pure (by rfl) ?_; intro N hN; go_big_quiet_op; go_big_quiet_on)
            | (refine planI_read (by rfl) ?_; intro N hN; go_big_quiet_op; go_big_quiet_on)
            | (refine planI_skip (by rfl) ?_; simp only [Act.put, List.setIfInBounds_toArray, List.set_cons_zero, List.set_cons_succ]))
          refine planI_nil ?_
          gi_wp2
          exact ⟨⟨k + 1, by omega, by go_num, hJ3, hK.drew.trans hk3⟩, by simp [intOf]; omega⟩
        · refine hN _ W3 W3 (fun h => by cases h) (Ext.refl _) ?_
          repeat (first
            | (refine planI_pure (by rfl) ?_; intro N hN; go_big_quiet_op; go_big_quiet_on)
            | (refine planI_read (by rfl) ?_; intro N hN; go_big_quiet_op; go_big_quiet_on)
            | (refine planI_skip (by rfl) ?_; simp only [Act.put, List.setIfInBounds_toArray, List.set_cons_zero, List.set_cons_succ]))
          refine planI_nil ?_
          gi_wp2
          refine bodyPost_ret (results_none rfl _ _ _) rfl ?_
          exact ⟨⟨_, rfl⟩, .inr ⟨k + 1, by rw [hcl]; omega, hJx3⟩⟩
      · have hk' : k = c := by omega
        subst hk'
        gi_wp2
        go_end0
        exact ⟨⟨_, rfl⟩, .inl (by rw [hcl]; exact hJk)⟩
end Go.Proofs.YtjamakapkpkfeaaDoor
