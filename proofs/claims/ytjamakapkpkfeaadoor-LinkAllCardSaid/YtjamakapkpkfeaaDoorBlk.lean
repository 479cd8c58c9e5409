/- The reference's text of the digest: one block. -/
import Derived.Test.YtjamakapkpkfeaaDoorExt2
namespace Go.Proofs.YtjamakapkpkfeaaDoor
open Go.RowKit Go.Shelf Sha

theorem Row.news {W : World} {b : Nat} {t : TypeId} {l : List Value} (h : Row W b t l) : ∀ j v, l[j]? = some v → W.cell? ((⟨b, 0, none⟩ : Addr).add j) = some v := fun j v hv => row_cells h 0 l (by simp) j v hv
theorem Cells.news {W : World} {b : Nat} {k : IntKind} {l : List Nat} (h : Cells W b 0 k l) : ∀ j v, (vals k l)[j]? = some v → W.cell? ((⟨b, 0, none⟩ : Addr).add j) = some v := by
  intro j v hv
  have hj : j < l.length := by have := (List.getElem?_eq_some_iff.1 hv).1; rwa [vals_length] at this
  rw [Addr.add_mid, h j hj]
  rw [vals_at k l j hj] at hv
  exact hv

theorem at_lt {l : List Nat} {M : Nat} (h : Good l M) (hM : 0 < M) (j : Nat) : at_ l j < M := by
  rcases Nat.lt_or_ge j l.length with h1 | h1
  · exact h j h1
  · unfold at_; rw [List.getD_eq_getElem?_getD, List.getElem?_eq_none h1]; exact hM
theorem first_good (bs : List Nat) (h : Good bs 256) : ∀ n, Good (first bs n) 4294967296
  | 0 => by rw [first_zero]; intro j hj; cases hj
  | n + 1 => by
    rw [first_succ]
    refine good_append (first_good bs h n) ?_
    rw [good_iff]; intro x hx; rw [List.mem_singleton.1 hx]
    exact word_lt _ _ (at_lt h (by decide) _)
theorem more_good (l : List Nat) (_ : l.length = 16) (h : Good l 4294967296) : ∀ n, Good (more l n) 4294967296
  | 0 => by rw [more_zero]; exact h
  | n + 1 => by
    rw [more_succ]
    refine good_append (more_good l (by assumption) h n) ?_
    rw [good_iff]; intro x hx; rw [List.mem_singleton.1 hx]
    exact Nat.mod_lt _ (by decide)
theorem bg_walk {x : Nat} (n1 n2 n3 : Nat) (hx : x < 4294967296) :
    bits BinOp.xor IntKind.u32 (bits BinOp.xor IntKind.u32 ((rotr x n1 : Nat) : Int) ((rotr x n2 : Nat) : Int)) ((rotr x n3 : Nat) : Int) = ((rotr x n1 ^^^ rotr x n2 ^^^ rotr x n3 : Nat) : Int) := by
  rw [bits_xor_u32 _ _ (rotr_lt _ hx) (rotr_lt _ hx), bits_xor_u32 _ _ (xor_lt (rotr_lt _ hx) (rotr_lt _ hx)) (rotr_lt _ hx)]
theorem sg_walk {x : Nat} (n1 n2 d : Nat) (hx : x < 4294967296) :
    bits BinOp.xor IntKind.u32 (bits BinOp.xor IntKind.u32 ((rotr x n1 : Nat) : Int) ((rotr x n2 : Nat) : Int)) ((x : Int) / (d : Int)) = ((rotr x n1 ^^^ rotr x n2 ^^^ x / d : Nat) : Int) := by
  rw [← Int.natCast_ediv, bits_xor_u32 _ _ (rotr_lt _ hx) (rotr_lt _ hx), bits_xor_u32 _ _ (xor_lt (rotr_lt _ hx) (rotr_lt _ hx)) (div_lt _ hx)]

set_option maxRecDepth 100000 in
set_option maxHeartbeats 1000000 in
theorem blk_any (hs : List Nat) (hhl : hs.length = 8) (hhs : Good hs 4294967296) (hb ca pb po cb : Nat) (bs : List Nat) (hl : bs.length = 64) (hbs : Good bs 256) (w : World) (hch : Cells w hb 0 .u32 hs) (hc : Cells w pb po .u8 bs) :
    Calls Tryd.prog 54 #[.slice (some ⟨hb, 0, none⟩) 8 ca, .slice (some ⟨pb, po, none⟩) 64 cb] w fun e w' => ∃ v, e = .returned v ∧ Own w' w.heap.size 83 1 v 8 (vals .u32 (block hs bs)) ∧ Ext w w' := by
  have HH := Lib.hid hhs
  have HHL := Lib.hid hhl
  have HL := Lib.hid hl
  have HG := Lib.hid hbs
  clear hhs hl hbs hhl
  go_enter Tryd.func54, Tryd.ntmps54
  go_wp2
  go_loopw [5, 6] (fun v i wr => ∃ k : Nat, k ≤ 16 ∧ i = .int .i64 k ∧ Own wr w.heap.size 83 1 v k (vals .u32 (first bs k)) ∧ Ext w wr) (fun _ i _ => 16 - (intOf i).toNat)
  case atStart => exact ⟨0, Nat.zero_le _, rfl, by rw [first_zero]; exact Own.nil _ _ _ _, Ext.refl _⟩
  case round =>
    obtain ⟨k, hk, rfl, ho, hE⟩ := hrel
    obtain ⟨p, cap, rfl, hcap⟩ := ho.form'
    by_cases hlt : k < 16
    · have HCu := fun u => (hc.ext hE).plus u
      have h0 : ∀ u, (wplus wr u).cell? ⟨pb, po + 4 * k, none⟩ = some (.int .u8 (at_ bs (4 * k) : Nat)) := fun u => HCu u (4 * k) (by have := HL.out; omega)
      have h1 : ∀ u, (wplus wr u).cell? ⟨pb, po + (4 * k + 1), none⟩ = some (.int .u8 (at_ bs (4 * k + 1) : Nat)) := fun u => HCu u (4 * k + 1) (by have := HL.out; omega)
      have h2 : ∀ u, (wplus wr u).cell? ⟨pb, po + (4 * k + 2), none⟩ = some (.int .u8 (at_ bs (4 * k + 2) : Nat)) := fun u => HCu u (4 * k + 2) (by have := HL.out; omega)
      have h3 : ∀ u, (wplus wr u).cell? ⟨pb, po + (4 * k + 3), none⟩ = some (.int .u8 (at_ bs (4 * k + 3) : Nat)) := fun u => HCu u (4 * k + 3) (by have := HL.out; omega)
      clear HCu
      have HW : Hid (bits BinOp.or IntKind.u32 (bits BinOp.or IntKind.u32 (bits BinOp.or IntKind.u32 ((at_ bs (4 * k) : Int) % 4294967296 * 16777216 % 4294967296) ((at_ bs (4 * k + 1) : Int) % 4294967296 * 65536 % 4294967296)) ((at_ bs (4 * k + 2) : Int) % 4294967296 * 256 % 4294967296)) ((at_ bs (4 * k + 3) : Int) % 4294967296) = (word bs k : Nat)) :=
        word_walk _ _ _ _ (HG.out _ (by have := HL.out; omega))
      go_wp2
      refine wp_region_plan [35] (.step 0 .pure (.step 1 .pure (.step 2 .pure (.step 3 .pure (.step 4 .pure (.step 5 .read (.step 6 .pure (.step 7 .pure (.step 8 .pure (.step 9 .pure (.step 10 .pure (.step 11 .pure (.step 12 .pure (.step 13 .read (.step 14 .pure (.step 15 .pure (.step 16 .pure (.step 17 .pure (.step 18 .pure (.step 19 .pure (.step 20 .pure (.step 21 .pure (.step 22 .read (.step 23 .pure (.step 24 .pure (.step 25 .pure (.step 26 .pure (.step 27 .pure (.step 28 .pure (.step 29 .pure (.step 30 .pure (.step 31 .read (.step 32 .pure (.step 33 .pure (.step 34 (.eff false) (.step 35 (.eff true) (.step 36 .pure (.fin)))))))))))))))))))))))))))))))))))))) (by kernel_rfl) (by kernel_rfl) (Ext.refl wr) ?_
      simp only [pickOps, List.getD_cons_zero, List.getD_cons_succ]
      repeat (first
        | (refine plan_pure (by rfl) ?_; intro N hN; go_big_quiet_op; go_big_quiet_on)
        | (refine plan_read (by rfl) ?_; intro N hN; go_big_quiet_op; go_big_quiet_on)
        | (refine plan_skip (by rfl) ?_; simp only [Act.put, List.setIfInBounds_toArray, List.set_cons_zero, List.set_cons_succ]))
      refine plan_eff (by rfl) ?_
      intro N hN
      go_big_op
      refine plan_alloc hN (Ext.refl wr).drew ?_
      intro W1 hR1 hE1 hE2
      rw [HW.out] at hR1
      refine plan_eff (by rfl) ?_
      intro N hN
      refine wp_append_G _ _ 84 rfl _ 83 (.int .u32 0) 1 4 Tryd.underlying84 (by kernel_rfl) rfl (by decide) (ho.ext hE2) rfl _ rfl rfl hR1.news (by simp [Value.oneCell']) (by simp only [maxLen]; omega) (by omega) (by have := (hE.trans hE2).size; omega) ?_
      intro v2 w2 ho2 hg2
      refine hN _ w2 w2 (fun h => by cases h) (Ext.refl _) ?_
      simp only [Act.put, List.setIfInBounds_toArray, List.set_cons_zero, List.set_cons_succ]
      repeat (first
        | (refine plan_pure (by rfl) ?_; intro N hN; go_big_quiet_op; go_big_quiet_on)
        | (refine plan_read (by rfl) ?_; intro N hN; go_big_quiet_op; go_big_quiet_on)
        | (refine plan_skip (by rfl) ?_; simp only [Act.put, List.setIfInBounds_toArray, List.set_cons_zero, List.set_cons_succ]))
      refine plan_nil ?_
      go_wp2
      refine ⟨⟨k + 1, by omega, by go_num, ?_, ho.grow (hE.trans hE2) hg2 (Nat.le_refl _)⟩, by simp [intOf]; omega⟩
      rw [first_succ, vals_append]
      exact ho2
    · have hk' : k = 16 := by omega
      subst hk'
      have ho1 : Own wr w.heap.size 83 1 (.slice p 16 cap) 16 (vals .u32 (more (first bs 16) (16 - 16))) := by rw [Nat.sub_self, more_zero]; exact ho
      clear ho hlt hk hcap
      go_wp2
      obtain ⟨w3, hw3⟩ : ∃ w3, w3 = wr := ⟨_, rfl⟩
      rw [← hw3] at hE ho1 ⊢
      clear hw3
      go_loopw [5, 7] (fun v i wr => ∃ k : Nat, 16 ≤ k ∧ k ≤ 64 ∧ i = .int .i64 k ∧ Own wr w.heap.size 83 1 v k (vals .u32 (more (first bs 16) (k - 16))) ∧ Ext w wr) (fun _ i _ => 64 - (intOf i).toNat)
      case atStart => exact ⟨16, Nat.le_refl _, by decide, rfl, ho1, hE⟩
      case round =>
        clear ho1 hE
        obtain ⟨k, hk0, hk, rfl, ho, hE⟩ := hrel
        obtain ⟨g, cap, rfl, hgb, hgl, hcap⟩ := ho.form (by omega)
        have hml : (more (first bs 16) (k - 16)).length = k := by rw [more_length, first_length]; omega
        have hcel := ho.bytes rfl
        have HML := Lib.hid hml
        clear hml
        generalize hm : more (first bs 16) (k - 16) = l at *
        have HM := Lib.hid hm
        clear hm
        have HCu := fun u => hcel.plus u
        have c1 : ∀ u, (wplus wr u).cell? ⟨g, k - 15, none⟩ = some (.int .u32 (at_ l (k - 15) : Nat)) := fun u => by have := HCu u (k - 15) (by have := HML.out; omega); rwa [Nat.zero_add] at this
        have c2 : ∀ u, (wplus wr u).cell? ⟨g, k - 2, none⟩ = some (.int .u32 (at_ l (k - 2) : Nat)) := fun u => by have := HCu u (k - 2) (by have := HML.out; omega); rwa [Nat.zero_add] at this
        have c3 : ∀ u, (wplus wr u).cell? ⟨g, k - 16, none⟩ = some (.int .u32 (at_ l (k - 16) : Nat)) := fun u => by have := HCu u (k - 16) (by have := HML.out; omega); rwa [Nat.zero_add] at this
        have c4 : ∀ u, (wplus wr u).cell? ⟨g, k - 7, none⟩ = some (.int .u32 (at_ l (k - 7) : Nat)) := fun u => by have := HCu u (k - 7) (by have := HML.out; omega); rwa [Nat.zero_add] at this
        clear HCu
        by_cases hlt : k < 64
        · have hgm : Good l 4294967296 := by rw [← HM.out]; exact more_good _ (first_length bs 16) (first_good bs HG.out 16) _
          have hx1 : at_ l (k - 15) < 4294967296 := hgm _ (by have := HML.out; omega)
          have hx2 : at_ l (k - 2) < 4294967296 := hgm _ (by have := HML.out; omega)
          clear hgm
          go_wp2
          refine wp_region_plan [] (.step 0 .pure (.step 1 .pure (.step 2 .pure (.step 3 .pure (.step 4 .read (.step 6 .pure (.step 7 .pure (.step 8 .pure (.step 9 .pure (.step 10 .read (.step 13 .pure (.step 14 .pure (.step 15 .pure (.step 16 .pure (.step 17 .read (.step 18 .pure (.step 5 (.eff false) (.step 11 (.eff false) (.step 12 .pure (.step 19 .pure (.step 20 .pure (.fin)))))))))))))))))))))) (by kernel_rfl) (by kernel_rfl) (Ext.refl wr) ?_
          simp only [pickOps, List.getD_cons_zero, List.getD_cons_succ]
          repeat (first
            | (refine plan_pure (by rfl) ?_; intro N hN; go_big_quiet_op; go_big_quiet_on)
            | (refine plan_read (by rfl) ?_; intro N hN; go_big_quiet_op; go_big_quiet_on)
            | (refine plan_skip (by rfl) ?_; simp only [Act.put, List.setIfInBounds_toArray, List.set_cons_zero, List.set_cons_succ]))
          refine plan_eff (by rfl) ?_
          intro N hN
          go_big_op
          refine (rotated_any _ hx1 7 (by decide) (by decide) _).mono ?_
          rintro e w' ⟨rfl, rfl⟩
          refine hN _ wr _ (fun _ => Ext.refl _) (by repeat first | exact Ext.refl _ | refine Ext.drew ?_) ?_
          repeat (first
            | (refine plan_pure (by rfl) ?_; intro N hN; go_big_quiet_op; go_big_quiet_on)
            | (refine plan_read (by rfl) ?_; intro N hN; go_big_quiet_op; go_big_quiet_on)
            | (refine plan_skip (by rfl) ?_; simp only [Act.put, List.setIfInBounds_toArray, List.set_cons_zero, List.set_cons_succ]))
          refine plan_eff (by rfl) ?_
          intro N hN
          go_big_op
          refine (rotated_any _ hx1 18 (by decide) (by decide) _).mono ?_
          rintro e w' ⟨rfl, rfl⟩
          refine hN _ wr _ (fun _ => Ext.refl _) (by repeat first | exact Ext.refl _ | refine Ext.drew ?_) ?_
          repeat (first
            | (refine plan_pure (by rfl) ?_; intro N hN; go_big_quiet_op; go_big_quiet_on)
            | (refine plan_read (by rfl) ?_; intro N hN; go_big_quiet_op; go_big_quiet_on)
            | (refine plan_skip (by rfl) ?_; simp only [Act.put, List.setIfInBounds_toArray, List.set_cons_zero, List.set_cons_succ]))
          refine plan_nil ?_
          rw [show (8 : Int) = ((8 : Nat) : Int) from rfl, sg_walk _ _ 8 hx1]
          go_wp2
          refine wp_region_plan [] (.step 0 .pure (.step 1 .pure (.step 2 .pure (.step 3 .pure (.step 4 .read (.step 6 .pure (.step 7 .pure (.step 8 .pure (.step 9 .pure (.step 10 .read (.step 13 .pure (.step 14 .pure (.step 15 .pure (.step 16 .pure (.step 17 .read (.step 18 .pure (.step 5 (.eff false) (.step 11 (.eff false) (.step 12 .pure (.step 19 .pure (.step 20 .pure (.fin)))))))))))))))))))))) (by kernel_rfl) (by kernel_rfl) ((Ext.refl wr).drew.drew.drew) ?_
          simp only [pickOps, List.getD_cons_zero, List.getD_cons_succ]
          repeat (first
            | (refine plan_pure (by rfl) ?_; intro N hN; go_big_quiet_op; go_big_quiet_on)
            | (refine plan_read (by rfl) ?_; intro N hN; go_big_quiet_op; go_big_quiet_on)
            | (refine plan_skip (by rfl) ?_; simp only [Act.put, List.setIfInBounds_toArray, List.set_cons_zero, List.set_cons_succ]))
          refine plan_eff (by rfl) ?_
          intro N hN
          go_big_op
          refine (rotated_any _ hx2 17 (by decide) (by decide) _).mono ?_
          rintro e w' ⟨rfl, rfl⟩
          refine hN _ wr _ (fun _ => Ext.refl _) (by repeat first | exact Ext.refl _ | refine Ext.drew ?_) ?_
          repeat (first
            | (refine plan_pure (by rfl) ?_; intro N hN; go_big_quiet_op; go_big_quiet_on)
            | (refine plan_read (by rfl) ?_; intro N hN; go_big_quiet_op; go_big_quiet_on)
            | (refine plan_skip (by rfl) ?_; simp only [Act.put, List.setIfInBounds_toArray, List.set_cons_zero, List.set_cons_succ]))
          refine plan_eff (by rfl) ?_
          intro N hN
          go_big_op
          refine (rotated_any _ hx2 19 (by decide) (by decide) _).mono ?_
          rintro e w' ⟨rfl, rfl⟩
          refine hN _ wr _ (fun _ => Ext.refl _) (by repeat first | exact Ext.refl _ | refine Ext.drew ?_) ?_
          repeat (first
            | (refine plan_pure (by rfl) ?_; intro N hN; go_big_quiet_op; go_big_quiet_on)
            | (refine plan_read (by rfl) ?_; intro N hN; go_big_quiet_op; go_big_quiet_on)
            | (refine plan_skip (by rfl) ?_; simp only [Act.put, List.setIfInBounds_toArray, List.set_cons_zero, List.set_cons_succ]))
          refine plan_nil ?_
          rw [show (1024 : Int) = ((1024 : Nat) : Int) from rfl, sg_walk _ _ 1024 hx2]
          go_wp2
          refine wp_region_plan [17] (.step 0 .pure (.step 1 .pure (.step 2 .pure (.step 3 .pure (.step 4 .pure (.step 5 .read (.step 6 .pure (.step 7 .pure (.step 8 .pure (.step 9 .pure (.step 10 .pure (.step 11 .pure (.step 12 .read (.step 13 .pure (.step 14 .pure (.step 15 .pure (.step 16 (.eff false) (.step 17 (.eff true) (.step 18 .pure (.fin)))))))))))))))))))) (by kernel_rfl) (by kernel_rfl) ((Ext.refl wr).drew.drew.drew.drew.drew.drew) ?_
          simp only [pickOps, List.getD_cons_zero, List.getD_cons_succ]
          repeat (first
            | (refine plan_pure (by rfl) ?_; intro N hN; go_big_quiet_op; go_big_quiet_on)
            | (refine plan_read (by rfl) ?_; intro N hN; go_big_quiet_op; go_big_quiet_on)
            | (refine plan_skip (by rfl) ?_; simp only [Act.put, List.setIfInBounds_toArray, List.set_cons_zero, List.set_cons_succ]))
          refine plan_eff (by rfl) ?_
          intro N hN
          go_big_op
          refine plan_alloc hN (Ext.refl wr).drew.drew.drew.drew.drew.drew.drew ?_
          intro W1 hR1 hE1 hE2
          rw [show (((at_ l (k - 16) : Nat) : Int) + ((rotr (at_ l (k - 15)) 7 ^^^ rotr (at_ l (k - 15)) 18 ^^^ at_ l (k - 15) / 8 : Nat) : Int) + ((at_ l (k - 7) : Nat) : Int) + ((rotr (at_ l (k - 2)) 17 ^^^ rotr (at_ l (k - 2)) 19 ^^^ at_ l (k - 2) / 1024 : Nat) : Int)) % 4294967296 = ((next l k : Nat) : Int) from by unfold next sg0 sg1; omega] at hR1
          refine plan_eff (by rfl) ?_
          intro N hN
          refine wp_append_G _ _ 84 rfl _ 83 (.int .u32 0) 1 4 Tryd.underlying84 (by kernel_rfl) rfl (by decide) (ho.ext hE2) rfl _ rfl rfl hR1.news (by simp [Value.oneCell']) (by simp only [maxLen]; omega) (by omega) (by have := (hE.trans hE2).size; omega) ?_
          intro v2 w2 ho2 hg2
          refine hN _ w2 w2 (fun h => by cases h) (Ext.refl _) ?_
          simp only [Act.put, List.setIfInBounds_toArray, List.set_cons_zero, List.set_cons_succ]
          repeat (first
            | (refine plan_pure (by rfl) ?_; intro N hN; go_big_quiet_op; go_big_quiet_on)
            | (refine plan_read (by rfl) ?_; intro N hN; go_big_quiet_op; go_big_quiet_on)
            | (refine plan_skip (by rfl) ?_; simp only [Act.put, List.setIfInBounds_toArray, List.set_cons_zero, List.set_cons_succ]))
          refine plan_nil ?_
          go_wp2
          refine ⟨⟨k + 1, by omega, by omega, by go_num, ?_, ho.grow (hE.trans hE2) hg2 (Nat.le_refl _)⟩, by simp [intOf]; omega⟩
          rw [show k + 1 - 16 = (k - 16) + 1 by omega, more_succ, HM.out, show 16 + (k - 16) = k by omega, vals_append]
          exact ho2
        · have hk' : k = 64 := by omega
          subst hk'
          have hls : l = sched bs := by rw [← HM.out, sched_eq]
          have HLS := Lib.hid hls
          clear hls c1 c2 c3 c4 hcap ho HM hlt hk hk0
          have hch4 := fun w4 (hE4 : Ext wr w4) => (hch.ext (hE.trans hE4)).news
          go_wp2_with (first
            | (go_at_call 65; refine (constants_any _).mono ?_; rintro e w4 ⟨gc, rfl, hcc, hE4, hgc⟩)
            | (at_builtin; go_loud (refine wpList_append_G rfl _ _ 84 rfl w.heap.size 83 (.int .u32 0) 1 4 Tryd.underlying84 (by kernel_rfl) rfl (by decide) (Own.nil _ _ _ _) rfl (vals .u32 hs) rfl (by rw [vals_length, HHL.out]) (hch4 _ hE4) (oneCell_vals _ _) (by decide) (by decide) (hE.trans hE4).size ?_; intro v5 w5 ho5 hg5)))
          clear hch4
          rw [Nat.zero_add, List.nil_append] at ho5
          have hE5 : Ext wr w5 := hE4.grown hg5 (fun k e => by cases e)
          obtain ⟨gv, cv, rfl, _⟩ := ho5.form (by omega)
          have hcv := ho5.bytes rfl
          have hE45 : Ext w4 w5 := (Ext.refl w4).grown hg5 (fun k e => by cases e)
          have hcc5 := hcc.ext hE45
          have hcw5 := hcel.ext hE5
          rw [HLS.out] at hcw5
          have hch5 := hch.ext (hE.trans hE5)
          have hE6 := hE.trans hE5
          clear hg5 ho5 hE5 hE45 hcc hE4 hcel hE
          go_loopw [11, 12] (fun v i wr => ∃ k : Nat, k ≤ 64 ∧ i = .int .i64 k ∧ ∃ g' c', v = .slice (some ⟨g', 0, none⟩) 8 c' ∧ Cells wr g' 0 .u32 (rounds hs (sched bs) k) ∧ Ext w5 wr) (fun _ i _ => 64 - (intOf i).toNat)
          case atStart => exact ⟨0, Nat.zero_le _, rfl, _, _, rfl, by rw [Sha.rounds_zero]; exact hcv, Ext.refl _⟩
          case round =>
            clear hcv
            obtain ⟨k, hk, rfl, g', c', rfl, hcv, hE⟩ := hrel
            by_cases hlt : k < 64
            · obtain ⟨v0, v1, v2, v3, v4, v5, v6, v7, hv8⟩ := eight (l := rounds hs (sched bs) k) (rounds_length _ _ HHL.out k)
              have hgv : Good (rounds hs (sched bs) k) 4294967296 := rounds_good _ _ HH.out HHL.out k
              have HR := Lib.hid hv8
              rw [hv8] at hgv hcv
              clear hv8
              have b0 : v0 < 4294967296 := hgv 0 (by simp)
              have b1 : v1 < 4294967296 := hgv 1 (by simp)
              have b2 : v2 < 4294967296 := hgv 2 (by simp)
              have b4 : v4 < 4294967296 := hgv 4 (by simp)
              have b5 : v5 < 4294967296 := hgv 5 (by simp)
              have b6 : v6 < 4294967296 := hgv 6 (by simp)
              clear hgv
              have e0 : wr.cell? ⟨g', 0, none⟩ = some (.int .u32 (v0 : Nat)) := hcv 0 (by simp)
              have e4 : wr.cell? ⟨g', 4, none⟩ = some (.int .u32 (v4 : Nat)) := hcv 4 (by simp)
              have HCv := fun u => hcv.plus u
              have d1 : ∀ u, (wplus wr u).cell? ⟨g', 1, none⟩ = some (.int .u32 (v1 : Nat)) := fun u => HCv u 1 (by simp)
              have d2 : ∀ u, (wplus wr u).cell? ⟨g', 2, none⟩ = some (.int .u32 (v2 : Nat)) := fun u => HCv u 2 (by simp)
              have d3 : ∀ u, (wplus wr u).cell? ⟨g', 3, none⟩ = some (.int .u32 (v3 : Nat)) := fun u => HCv u 3 (by simp)
              have d5 : ∀ u, (wplus wr u).cell? ⟨g', 5, none⟩ = some (.int .u32 (v5 : Nat)) := fun u => HCv u 5 (by simp)
              have d6 : ∀ u, (wplus wr u).cell? ⟨g', 6, none⟩ = some (.int .u32 (v6 : Nat)) := fun u => HCv u 6 (by simp)
              have d7 : ∀ u, (wplus wr u).cell? ⟨g', 7, none⟩ = some (.int .u32 (v7 : Nat)) := fun u => HCv u 7 (by simp)
              clear HCv
              have ck : ∀ u, (wplus wr u).cell? ⟨gc, k, none⟩ = some (.int .u32 (at_ consts k : Nat)) := fun u => by have := (hcc5.ext hE).plus u k (by rw [consts_length]; exact hlt); rwa [Nat.zero_add] at this
              have cw : ∀ u, (wplus wr u).cell? ⟨g, k, none⟩ = some (.int .u32 (at_ (sched bs) k : Nat)) := fun u => by have := (hcw5.ext hE).plus u k (by rw [sched_length]; exact hlt); rwa [Nat.zero_add] at this
              go_wp2
              refine wp_region_plan [] (.step 0 .pure (.step 1 .pure (.step 2 .read (.step 3 .pure (.step 5 .pure (.step 8 .pure (.step 12 .pure (.step 13 .pure (.step 14 .pure (.step 15 .read (.step 16 .pure (.step 17 .pure (.step 18 .pure (.step 19 .pure (.step 20 .pure (.step 21 .read (.step 22 .pure (.step 23 .pure (.step 25 .pure (.step 26 .pure (.step 27 .pure (.step 28 .read (.step 30 .pure (.step 31 .pure (.step 32 .pure (.step 33 .read (.step 4 (.eff false) (.step 6 (.eff false) (.step 7 .pure (.step 9 (.eff false) (.step 10 .pure (.step 11 .pure (.step 24 .pure (.step 29 .pure (.step 34 .pure (.step 35 .pure (.fin))))))))))))))))))))))))))))))))))))) (by kernel_rfl) (by kernel_rfl) (Ext.refl wr) ?_
              simp only [pickOps, List.getD_cons_zero, List.getD_cons_succ]
              repeat (first
                | (refine plan_pure (by rfl) ?_; intro N hN; go_big_quiet_op; go_big_quiet_on)
                | (refine plan_read (by rfl) ?_; intro N hN; go_big_quiet_op; go_big_quiet_on)
                | (refine plan_skip (by rfl) ?_; simp only [Act.put, List.setIfInBounds_toArray, List.set_cons_zero, List.set_cons_succ]))
              refine plan_eff (by rfl) ?_
              intro N hN
              go_big_op
              refine (rotated_any _ b4 6 (by decide) (by decide) _).mono ?_
              rintro e w' ⟨rfl, rfl⟩
              refine hN _ wr _ (fun _ => Ext.refl _) (by repeat first | exact Ext.refl _ | refine Ext.drew ?_) ?_
              repeat (first
                | (refine plan_pure (by rfl) ?_; intro N hN; go_big_quiet_op; go_big_quiet_on)
                | (refine plan_read (by rfl) ?_; intro N hN; go_big_quiet_op; go_big_quiet_on)
                | (refine plan_skip (by rfl) ?_; simp only [Act.put, List.setIfInBounds_toArray, List.set_cons_zero, List.set_cons_succ]))
              refine plan_eff (by rfl) ?_
              intro N hN
              go_big_op
              refine (rotated_any _ b4 11 (by decide) (by decide) _).mono ?_
              rintro e w' ⟨rfl, rfl⟩
              refine hN _ wr _ (fun _ => Ext.refl _) (by repeat first | exact Ext.refl _ | refine Ext.drew ?_) ?_
              repeat (first
                | (refine plan_pure (by rfl) ?_; intro N hN; go_big_quiet_op; go_big_quiet_on)
                | (refine plan_read (by rfl) ?_; intro N hN; go_big_quiet_op; go_big_quiet_on)
                | (refine plan_skip (by rfl) ?_; simp only [Act.put, List.setIfInBounds_toArray, List.set_cons_zero, List.set_cons_succ]))
              refine plan_eff (by rfl) ?_
              intro N hN
              go_big_op
              refine (rotated_any _ b4 25 (by decide) (by decide) _).mono ?_
              rintro e w' ⟨rfl, rfl⟩
              refine hN _ wr _ (fun _ => Ext.refl _) (by repeat first | exact Ext.refl _ | refine Ext.drew ?_) ?_
              repeat (first
                | (refine plan_pure (by rfl) ?_; intro N hN; go_big_quiet_op; go_big_quiet_on)
                | (refine plan_read (by rfl) ?_; intro N hN; go_big_quiet_op; go_big_quiet_on)
                | (refine plan_skip (by rfl) ?_; simp only [Act.put, List.setIfInBounds_toArray, List.set_cons_zero, List.set_cons_succ]))
              refine plan_nil ?_
              rw [bg_walk 6 11 25 b4, t1_walk (d := v7) b4 b5 b6]
              generalize hT : t1 [v0, v1, v2, v3, v4, v5, v6, v7] (at_ consts k) (at_ (sched bs) k) = T
              have HT := Lib.hid hT
              clear hT
              go_wp2
              refine wp_region_plan [] (.step 0 .pure (.step 2 .pure (.step 5 .pure (.step 8 .pure (.step 9 .pure (.step 10 .pure (.step 11 .read (.step 12 .pure (.step 13 .pure (.step 14 .pure (.step 15 .pure (.step 16 .read (.step 17 .pure (.step 18 .pure (.step 19 .pure (.step 20 .pure (.step 21 .read (.step 22 .pure (.step 23 .pure (.step 24 .read (.step 25 .pure (.step 26 .pure (.step 1 (.eff false) (.step 3 (.eff false) (.step 4 .pure (.step 6 (.eff false) (.step 7 .pure (.step 27 .pure (.step 28 .pure (.fin)))))))))))))))))))))))))))))) (by kernel_rfl) (by kernel_rfl) ((Ext.refl wr).drew.drew.drew.drew) ?_
              simp only [pickOps, List.getD_cons_zero, List.getD_cons_succ]
              repeat (first
                | (refine plan_pure (by rfl) ?_; intro N hN; go_big_quiet_op; go_big_quiet_on)
                | (refine plan_read (by rfl) ?_; intro N hN; go_big_quiet_op; go_big_quiet_on)
                | (refine plan_skip (by rfl) ?_; simp only [Act.put, List.setIfInBounds_toArray, List.set_cons_zero, List.set_cons_succ]))
              refine plan_eff (by rfl) ?_
              intro N hN
              go_big_op
              refine (rotated_any _ b0 2 (by decide) (by decide) _).mono ?_
              rintro e w' ⟨rfl, rfl⟩
              refine hN _ wr _ (fun _ => Ext.refl _) (by repeat first | exact Ext.refl _ | refine Ext.drew ?_) ?_
              repeat (first
                | (refine plan_pure (by rfl) ?_; intro N hN; go_big_quiet_op; go_big_quiet_on)
                | (refine plan_read (by rfl) ?_; intro N hN; go_big_quiet_op; go_big_quiet_on)
                | (refine plan_skip (by rfl) ?_; simp only [Act.put, List.setIfInBounds_toArray, List.set_cons_zero, List.set_cons_succ]))
              refine plan_eff (by rfl) ?_
              intro N hN
              go_big_op
              refine (rotated_any _ b0 13 (by decide) (by decide) _).mono ?_
              rintro e w' ⟨rfl, rfl⟩
              refine hN _ wr _ (fun _ => Ext.refl _) (by repeat first | exact Ext.refl _ | refine Ext.drew ?_) ?_
              repeat (first
                | (refine plan_pure (by rfl) ?_; intro N hN; go_big_quiet_op; go_big_quiet_on)
                | (refine plan_read (by rfl) ?_; intro N hN; go_big_quiet_op; go_big_quiet_on)
                | (refine plan_skip (by rfl) ?_; simp only [Act.put, List.setIfInBounds_toArray, List.set_cons_zero, List.set_cons_succ]))
              refine plan_eff (by rfl) ?_
              intro N hN
              go_big_op
              refine (rotated_any _ b0 22 (by decide) (by decide) _).mono ?_
              rintro e w' ⟨rfl, rfl⟩
              refine hN _ wr _ (fun _ => Ext.refl _) (by repeat first | exact Ext.refl _ | refine Ext.drew ?_) ?_
              repeat (first
                | (refine plan_pure (by rfl) ?_; intro N hN; go_big_quiet_op; go_big_quiet_on)
                | (refine plan_read (by rfl) ?_; intro N hN; go_big_quiet_op; go_big_quiet_on)
                | (refine plan_skip (by rfl) ?_; simp only [Act.put, List.setIfInBounds_toArray, List.set_cons_zero, List.set_cons_succ]))
              refine plan_nil ?_
              rw [bg_walk 2 13 22 b0, t2_walk b0 b1 b2]
              generalize hU : t2 [v0, v1, v2, v3, v4, v5, v6, v7] = U
              have HU := Lib.hid hU
              clear hU
              go_wp2
              refine wp_region_plan [] (.step 0 .pure (.step 1 .pure (.step 2 .pure (.step 3 .pure (.step 4 .pure (.step 5 .pure (.step 6 .read (.step 7 .pure (.step 8 .pure (.step 9 .read (.step 10 .pure (.step 11 .pure (.step 12 .read (.step 13 .pure (.step 14 .pure (.step 15 .pure (.step 16 .pure (.step 17 .pure (.step 18 .read (.step 19 .pure (.step 20 .pure (.step 21 .read (.step 22 (.eff false) (.step 23 .pure (.fin))))))))))))))))))))))))) (by kernel_rfl) (by kernel_rfl) ((Ext.refl wr).drew.drew.drew.drew.drew.drew.drew.drew) ?_
              simp only [pickOps, List.getD_cons_zero, List.getD_cons_succ]
              repeat (first
                | (refine plan_pure (by rfl) ?_; intro N hN; go_big_quiet_op; go_big_quiet_on)
                | (refine plan_read (by rfl) ?_; intro N hN; go_big_quiet_op; go_big_quiet_on)
                | (refine plan_skip (by rfl) ?_; simp only [Act.put, List.setIfInBounds_toArray, List.set_cons_zero, List.set_cons_succ]))
              refine plan_eff (by rfl) ?_
              intro N hN
              go_big_op
              refine plan_alloc hN (Ext.refl wr).drew.drew.drew.drew.drew.drew.drew.drew.drew ?_
              intro W1 hR1 hE1 hE2
              repeat (first
                | (refine plan_pure (by rfl) ?_; intro N hN; go_big_quiet_op; go_big_quiet_on)
                | (refine plan_read (by rfl) ?_; intro N hN; go_big_quiet_op; go_big_quiet_on)
                | (refine plan_skip (by rfl) ?_; simp only [Act.put, List.setIfInBounds_toArray, List.set_cons_zero, List.set_cons_succ]))
              refine plan_nil ?_
              go_wp2
              refine ⟨⟨k + 1, by omega, by go_num, _, _, rfl, ?_, hE.trans hE2⟩, by simp [intOf]; omega⟩
              rw [plus_cast T U, plus_cast v3 T] at hR1
              rw [Sha.rounds_succ, HR.out, show round [v0, v1, v2, v3, v4, v5, v6, v7] (at_ consts k) (at_ (sched bs) k) = [plus T U, v0, v1, v2, plus v3 T, v4, v5, v6] from by
                show [plus (t1 _ _ _) (t2 _), v0, v1, v2, plus v3 (t1 _ _ _), v4, v5, v6] = _
                rw [HT.out, HU.out]]
              exact cells_of_row hR1
            · have hk' : k = 64 := by omega
              subst hk'
              clear hcc5 hcw5 hlt hk
              generalize hV : rounds hs (sched bs) 64 = V at *
              have HV := Lib.hid hV
              have HVL : Hid (V.length = 8) := Lib.hid (by rw [← hV]; exact rounds_length _ _ HHL.out 64)
              clear hV
              go_wp2
              obtain ⟨w6, hw6⟩ : ∃ w6, w6 = wr := ⟨_, rfl⟩
              rw [← hw6] at hE hcv ⊢
              clear hw6
              go_loopw [17, 18] (fun v i wr => ∃ n : Nat, n ≤ 8 ∧ i = .int .i64 n ∧ Own wr w6.heap.size 83 1 v n (vals .u32 (sums hs V n)) ∧ Ext w6 wr) (fun _ i _ => 8 - (intOf i).toNat)
              case atStart => exact ⟨0, Nat.zero_le _, rfl, by rw [sums_zero]; exact Own.nil _ _ _ _, Ext.refl _⟩
              case round =>
                obtain ⟨n, hn, rfl, ho, hE7⟩ := hrel
                obtain ⟨p7, c7, rfl, hcap7⟩ := ho.form'
                by_cases hlt : n < 8
                · have e1 : ∀ u, (wplus wr u).cell? ⟨hb, n, none⟩ = some (.int .u32 (at_ hs n : Nat)) := fun u => by have := ((hch5.ext hE).ext hE7).plus u n (by rw [HHL.out]; exact hlt); rwa [Nat.zero_add] at this
                  have e2 : ∀ u, (wplus wr u).cell? ⟨g', n, none⟩ = some (.int .u32 (at_ V n : Nat)) := fun u => by have := (hcv.ext hE7).plus u n (by rw [HVL.out]; exact hlt); rwa [Nat.zero_add] at this
                  go_wp2
                  refine wp_region_plan [11] (.step 0 .pure (.step 1 .pure (.step 2 .pure (.step 3 .pure (.step 4 .read (.step 5 .pure (.step 6 .pure (.step 7 .pure (.step 8 .read (.step 9 .pure (.step 10 (.eff false) (.step 11 (.eff true) (.step 12 .pure (.fin)))))))))))))) (by kernel_rfl) (by kernel_rfl) (Ext.refl wr) ?_
                  simp only [pickOps, List.getD_cons_zero, List.getD_cons_succ]
                  repeat (first
                    | (refine plan_pure (by rfl) ?_; intro N hN; go_big_quiet_op; go_big_quiet_on)
                    | (refine plan_read (by rfl) ?_; intro N hN; go_big_quiet_op; go_big_quiet_on)
                    | (refine plan_skip (by rfl) ?_; simp only [Act.put, List.setIfInBounds_toArray, List.set_cons_zero, List.set_cons_succ]))
                  refine plan_eff (by rfl) ?_
                  intro N hN
                  go_big_op
                  refine plan_alloc hN (Ext.refl wr).drew ?_
                  intro W1 hR1 hE1 hE2
                  rw [plus_cast] at hR1
                  refine plan_eff (by rfl) ?_
                  intro N hN
                  refine wp_append_G _ _ 84 rfl _ 83 (.int .u32 0) 1 4 Tryd.underlying84 (by kernel_rfl) rfl (by decide) (ho.ext hE2) rfl _ rfl rfl hR1.news (by simp [Value.oneCell']) (by simp only [maxLen]; omega) (by omega) (by have := (hE7.trans hE2).size; omega) ?_
                  intro v2 w2 ho2 hg2
                  refine hN _ w2 w2 (fun h => by cases h) (Ext.refl _) ?_
                  simp only [Act.put, List.setIfInBounds_toArray, List.set_cons_zero, List.set_cons_succ]
                  repeat (first
                    | (refine plan_pure (by rfl) ?_; intro N hN; go_big_quiet_op; go_big_quiet_on)
                    | (refine plan_read (by rfl) ?_; intro N hN; go_big_quiet_op; go_big_quiet_on)
                    | (refine plan_skip (by rfl) ?_; simp only [Act.put, List.setIfInBounds_toArray, List.set_cons_zero, List.set_cons_succ]))
                  refine plan_nil ?_
                  go_wp2
                  refine ⟨⟨n + 1, by omega, by go_num, ?_, ho.grow (hE7.trans hE2) hg2 (Nat.le_refl _)⟩, by simp [intOf]; omega⟩
                  rw [sums_succ, vals_append]
                  exact ho2
                · have hn' : n = 8 := by omega
                  subst hn'
                  go_wp2
                  go_ret
                  refine ⟨_, rfl, ?_, (hE6.trans hE).trans hE7⟩
                  rw [block_eq, HV.out]
                  exact ho.mono (hE6.trans hE).size
end Go.Proofs.YtjamakapkpkfeaaDoor
