/- The digest's step over one block: contract of the method add. -/
import Derived.Test.YtjamakapkpkfeaaDoorSched
namespace Go.Proofs.YtjamakapkpkfeaaDoor
open Go.RowKit Sha

/-- The table of the digest's constants lies in its block. -/
def Tab (w : World) : Prop := w.rangeAt 0 0 (vals .u32 consts)
theorem Tab.ext {w w' : World} (h : Tab w) (e : Ext w w') : Tab w' := fun j v hv => e.cell (h j v hv)
theorem round_lt (v : List Nat) (k w : Nat) (hv : Good v 4294967296) (hl : v.length = 8) : Good (round v k w) 4294967296 := by
  intro j hj
  have hj : j < 8 := hj
  rcases (show j = 0 ∨ j = 1 ∨ j = 2 ∨ j = 3 ∨ j = 4 ∨ j = 5 ∨ j = 6 ∨ j = 7 by omega) with rfl | rfl | rfl | rfl | rfl | rfl | rfl | rfl
  · exact Nat.mod_lt _ (by decide)
  · exact hv 0 (by omega)
  · exact hv 1 (by omega)
  · exact hv 2 (by omega)
  · exact Nat.mod_lt _ (by decide)
  · exact hv 4 (by omega)
  · exact hv 5 (by omega)
  · exact hv 6 (by omega)

theorem not_walk (v : Nat) (h : v < 4294967296) : bits BinOp.xor IntKind.u32 (if IntKind.u32.signed = true then -1 else IntKind.u32.max) (v : Int) = ((4294967295 - v : Nat) : Int) := by
  rw [show (if IntKind.u32.signed = true then (-1 : Int) else IntKind.u32.max) = ((4294967295 : Nat) : Int) by rfl, bits_xor_u32 _ _ (by decide) h]
  congr 1
  have h1 := congrArg BitVec.toNat (BitVec.not_def (x := BitVec.ofNat 32 v))
  rw [BitVec.toNat_not, BitVec.toNat_xor, BitVec.toNat_allOnes, BitVec.toNat_ofNat, Nat.mod_eq_of_lt (show v < 2 ^ 32 from h)] at h1
  exact h1.symm
theorem t1_walk {d e f g c w : Nat} {v0 v1 v2 v3 : Nat} (he : e < 4294967296) (hf : f < 4294967296) (hg : g < 4294967296) :
    (((d : Int) + ((rotr e 6 ^^^ rotr e 11 ^^^ rotr e 25 : Nat) : Int) + bits BinOp.xor IntKind.u32 (bits BinOp.and IntKind.u32 (e : Int) (f : Int)) (bits BinOp.and IntKind.u32 (bits BinOp.xor IntKind.u32 (if IntKind.u32.signed = true then -1 else IntKind.u32.max) (e : Int)) (g : Int)) + (c : Int)) % 4294967296 + (w : Int)) % 4294967296 =
      ((t1 [v0, v1, v2, v3, e, f, g, d] c w : Nat) : Int) := by
  rw [not_walk e he, bits_and_u32 _ _ he hf, bits_and_u32 _ _ (by omega) hg, bits_xor_u32 _ _ (and_lt hf) (and_lt hg)]
  simp only [t1, at_, plus, ch, bg1, List.getD_cons_succ, List.getD_cons_zero]
  omega
theorem t2_walk {a b c : Nat} {v3 v4 v5 v6 v7 : Nat} (ha : a < 4294967296) (hb : b < 4294967296) (hc : c < 4294967296) :
    (((rotr a 2 ^^^ rotr a 13 ^^^ rotr a 22 : Nat) : Int) + bits BinOp.xor IntKind.u32 (bits BinOp.xor IntKind.u32 (bits BinOp.and IntKind.u32 (a : Int) (b : Int)) (bits BinOp.and IntKind.u32 (a : Int) (c : Int))) (bits BinOp.and IntKind.u32 (b : Int) (c : Int))) % 4294967296 =
      ((t2 [a, b, c, v3, v4, v5, v6, v7] : Nat) : Int) := by
  rw [bits_and_u32 _ _ ha hb, bits_and_u32 _ _ ha hc, bits_and_u32 _ _ hb hc, bits_xor_u32 _ _ (and_lt hb) (and_lt hc), bits_xor_u32 _ _ (xor_lt (and_lt hb) (and_lt hc)) (and_lt hc)]
  simp only [t2, at_, plus, maj, bg0, List.getD_cons_succ, List.getD_cons_zero]
  omega
theorem sums_length (h v : List Nat) : ∀ n, (sums h v n).length = n
  | 0 => by rw [sums_zero]; rfl
  | n + 1 => by rw [sums_succ, List.length_append, sums_length h v n]; rfl
theorem at_append_drop {l r : List Nat} {n : Nat} (h : l.length = n) : at_ (l ++ r.drop n) n = at_ r n := by
  unfold at_
  rw [List.getD_eq_getElem?_getD, List.getD_eq_getElem?_getD, List.getElem?_append_right (by omega), h, List.getElem?_drop]
  simp
theorem set_append_drop {l r : List Nat} {n x : Nat} (h : l.length = n) (hr : n < r.length) : (l ++ r.drop n).set n x = l ++ [x] ++ r.drop (n + 1) := by
  subst h
  rw [List.set_append_right _ _ (Nat.le_refl _), Nat.sub_self, List.append_assoc, List.drop_eq_getElem_cons hr]
  rfl
theorem grown_of_ext {w w' : World} (h : Ext w w') (r : Option Nat) : w.grownBy w' r := ⟨h.os, h.tape, h.output, h.size, fun k hk _ => h.block k hk⟩
theorem grown_setCell {w w' : World} {b : Nat} (h : w.grownBy w' (some b)) (i : Nat) (v : Value) : w.grownBy (w'.setCell ⟨b, i, none⟩ v) (some b) :=
  ⟨h.os, h.tape, h.output, by simpa [World.setCell] using h.size, fun k hk hne => by
    rw [Below.heap_setCell _ _ _ _ (fun e => hne (by rw [e]))]
    exact h.block k hk hne⟩
theorem grown_drew {w w' : World} {r : Option Nat} (h : w.grownBy w' r) : w.grownBy w'.drew r := ⟨h.os, h.tape, h.output, h.size, h.block⟩
theorem plus_cast (a b : Nat) : ((a : Int) + (b : Int)) % 4294967296 = ((plus a b : Nat) : Int) := by unfold plus; omega
theorem rounds_length (h w : List Nat) (hl : h.length = 8) : ∀ n, (rounds h w n).length = 8
  | 0 => by rw [Sha.rounds_zero]; exact hl
  | _ + 1 => by rw [Sha.rounds_succ]; rfl
theorem rounds_good (h w : List Nat) (hg : Good h 4294967296) (hl : h.length = 8) : ∀ n, Good (rounds h w n) 4294967296
  | 0 => by rw [Sha.rounds_zero]; exact hg
  | n + 1 => by rw [Sha.rounds_succ]; exact round_lt _ _ _ (rounds_good h w hg hl n) (rounds_length h w hl n)
theorem eight {l : List Nat} (h : l.length = 8) : ∃ v0 v1 v2 v3 v4 v5 v6 v7, l = [v0, v1, v2, v3, v4, v5, v6, v7] := by
  match l, h with
  | [v0, v1, v2, v3, v4, v5, v6, v7], _ => exact ⟨v0, v1, v2, v3, v4, v5, v6, v7, rfl⟩
theorem vals_at (k : IntKind) (l : List Nat) (j : Nat) (hj : j < l.length) : (vals k l)[j]? = some (.int k (at_ l j : Nat)) := by
  simp [vals, at_, List.getD_eq_getElem?_getD, hj]

set_option maxRecDepth 100000 in
set_option maxHeartbeats 1000000 in
theorem add_any (hb : Nat) (hs : List Nat) (hhl : hs.length = 8) (hhs : Good hs 4294967296) (pb po cap : Nat) (bs : List Nat) (hl : bs.length = 64) (hbs : Good bs 256) (w : World)
    (hrh : Row w hb 105 (vals .u32 hs)) (hc : Cells w pb po .u8 bs) (ht : Tab w) :
    Calls Tryd.prog 75 #[.pointer (some ⟨hb, 0, none⟩), .slice (some ⟨pb, po, none⟩) 64 cap] w fun e w' => (∃ v, e = .returned v) ∧ Row w' hb 105 (vals .u32 (block hs bs)) ∧ w.grownBy w' (some hb) := by
  have HH := Lib.hid hhs
  have HHL := Lib.hid hhl
  have HL := Lib.hid hl
  have HG := Lib.hid hbs
  have HVL : Hid ((vals .u32 hs).length = 8) := Lib.hid (by rw [vals_length]; exact hhl)
  clear hhs hl hbs hhl
  go_enter Tryd.func75, Tryd.ntmps75
  have HSL : Hid ((vals .u32 (sched bs)).length = 64) := Lib.hid (by rw [vals_length]; exact sched_length bs)
  go_wp2_with (first
    | (go_at_call 81; refine (schedule_any pb po cap bs HL.out HG.out _ hc).mono ?_; rintro e w1 ⟨rfl, hE1⟩)
    | (refine wpList_store_row rfl 121 _ _ rfl (Row.new _ _ _) _ rfl rfl (by rw [HSL.out]; rfl) (by kernel_rfl) (oneCell_vals _ _) ?_; intro w2 hr2 hg2; have hE2 : Ext w w2 := (hE1.alloc _).grown hg2 (fun k e => by cases e; exact hE1.size); have hrh2 := hrh.ext hE2)
    | refine wpList_load_row rfl 105 _ rfl hrh2 rfl _ Tryd.underlying105 rfl (by rw [HVL.out]; kernel_rfl) ?_
    | (refine wpList_store_row rfl 105 _ _ rfl (Row.new _ _ _) _ rfl rfl (by rw [HVL.out]; rfl) (by kernel_rfl) (oneCell_vals _ _) ?_; intro w3 hr3 hg3; have hE3 : Ext w w3 := (hE2.alloc _).grown hg3 (fun k e => by cases e; exact hE2.size); have hrw3 : Row w3 w1.heap.size _ _ := ((hr2.alloc _).kept hg3 (fun e => absurd hr2.lt (by rw [Option.some.inj e]; exact Nat.lt_irrefl _))))
    | refine wpList_load_mid rfl 121 _ rfl 0 0 rfl (vals .u32 consts) _ (ht.ext hE3) Tryd.underlying121 rfl (by kernel_rfl) ?_)
  have hvb : w.heap.size ≤ w2.heap.size := hE2.size
  have hwv : w1.heap.size ≠ w2.heap.size := Nat.ne_of_lt hr2.lt
  have hwb : w.heap.size ≤ w1.heap.size := hE1.size
  clear hg2 hr2 hg3 hrh2 hE2 hE1
  generalize hCL : vals .u32 consts = CL
  have HCL := Lib.hid hCL
  clear hCL
  generalize w1.heap.size = wb at *
  generalize w2.heap.size = vb at *
  go_loopw [19] (fun i wr => ∃ k : Nat, k ≤ 64 ∧ i = .int .i64 k ∧ ∃ vs : List Nat, Hid (vs = rounds hs (sched bs) k) ∧ Row wr vb 105 (vals .u32 vs) ∧ Row wr wb 121 (vals .u32 (sched bs)) ∧ Ext w wr) (fun i _ => 64 - (intOf i).toNat)
  case atStart => exact ⟨0, Nat.zero_le _, rfl, hs, Lib.hid (Sha.rounds_zero _ _).symm, hr3, hrw3, hE3⟩
  case round =>
    clear hr3 hrw3 hE3
    obtain ⟨k, hk, rfl, vs, hvs, hrv, hrw, hE⟩ := hrel
    obtain ⟨v0, v1, v2, v3, v4, v5, v6, v7, hv8⟩ := eight (l := vs) (by rw [hvs.out]; exact rounds_length _ _ HHL.out k)
    have hgv : Good vs 4294967296 := by rw [hvs.out]; exact rounds_good _ _ HH.out HHL.out k
    subst hv8
    have b0 : v0 < 4294967296 := hgv 0 (by simp)
    have b1 : v1 < 4294967296 := hgv 1 (by simp)
    have b2 : v2 < 4294967296 := hgv 2 (by simp)
    have b4 : v4 < 4294967296 := hgv 4 (by simp)
    have b5 : v5 < 4294967296 := hgv 5 (by simp)
    have b6 : v6 < 4294967296 := hgv 6 (by simp)
    clear hgv
    have HCv := fun u => (hrv.plus u).nat
    have c0 : ∀ u, (wplus wr u).cell? ⟨vb, 0, none⟩ = some (.int .u32 (v0 : Nat)) := fun u => HCv u 0 (by simp)
    have c1 : ∀ u, (wplus wr u).cell? ⟨vb, 1, none⟩ = some (.int .u32 (v1 : Nat)) := fun u => HCv u 1 (by simp)
    have c2 : ∀ u, (wplus wr u).cell? ⟨vb, 2, none⟩ = some (.int .u32 (v2 : Nat)) := fun u => HCv u 2 (by simp)
    have c4 : ∀ u, (wplus wr u).cell? ⟨vb, 4, none⟩ = some (.int .u32 (v4 : Nat)) := fun u => HCv u 4 (by simp)
    have c5 : ∀ u, (wplus wr u).cell? ⟨vb, 5, none⟩ = some (.int .u32 (v5 : Nat)) := fun u => HCv u 5 (by simp)
    have c6 : ∀ u, (wplus wr u).cell? ⟨vb, 6, none⟩ = some (.int .u32 (v6 : Nat)) := fun u => HCv u 6 (by simp)
    have c7 : ∀ u, (wplus wr u).cell? ⟨vb, 7, none⟩ = some (.int .u32 (v7 : Nat)) := fun u => HCv u 7 (by simp)
    clear HCv
    by_cases hlt : k < 64
    · have cw : ∀ u, (wplus wr u).cell? ⟨wb, k, none⟩ = some (.int .u32 (at_ (sched bs) k : Nat)) := fun u => (hrw.plus u).nat k (by rw [sched_length]; exact hlt)
      have hck : CL[k]? = some (.int .u32 (at_ consts k : Nat)) := by rw [← HCL.out]; exact vals_at _ _ k (by rw [consts_length]; exact hlt)
      go_wp2_with (refine wpList_index_arr rfl 121 _ _ rfl CL rfl k rfl 64 83 Tryd.underlying121 hlt .u32 Tryd.underlying83 (by kernel_rfl) hck ?_)
      refine wp_region_plan [] (.step 0 .pure (.step 1 .read (.step 2 .pure (.step 3 .read (.step 4 .pure (.step 5 .pure (.fin))))))) (by kernel_rfl) (by kernel_rfl) (Ext.refl wr) ?_
      simp only [pickOps, List.getD_cons_zero, List.getD_cons_succ]
      repeat (first
        | (refine plan_pure (by rfl) ?_; intro N hN; go_big_quiet_op; go_big_quiet_on)
        | (refine plan_read (by rfl) ?_; intro N hN; go_big_quiet_op; go_big_quiet_on)
        | (refine plan_skip (by rfl) ?_; simp only [Act.put, List.setIfInBounds_toArray, List.set_cons_zero, List.set_cons_succ]))
      refine plan_nil ?_
      go_wp2
      refine wp_region_plan [] (.step 0 .pure (.step 1 .read (.step 2 .pure (.step 6 .pure (.step 7 .pure (.step 8 .read (.step 9 .pure (.step 10 .pure (.step 11 .pure (.step 12 .pure (.step 13 .read (.step 14 .pure (.step 15 .pure (.step 17 .pure (.step 19 .pure (.step 20 .pure (.step 21 .read (.step 3 (.eff false) (.step 4 (.eff false) (.step 5 .pure (.step 16 .pure (.step 18 .pure (.step 22 .pure (.step 23 .pure (.fin))))))))))))))))))))))))) (by kernel_rfl) (by kernel_rfl) ((Ext.refl wr).drew) ?_
      simp only [pickOps, List.getD_cons_zero, List.getD_cons_succ]
      repeat (first
        | (refine plan_pure (by rfl) ?_; intro N hN; go_big_quiet_op; go_big_quiet_on)
        | (refine plan_read (by rfl) ?_; intro N hN; go_big_quiet_op; go_big_quiet_on)
        | (refine plan_skip (by rfl) ?_; simp only [Act.put, List.setIfInBounds_toArray, List.set_cons_zero, List.set_cons_succ]))
      refine plan_eff (by rfl) ?_
      intro N hN
      go_big_op
      refine plan_alloc hN ((Ext.refl wr).drew.drew) ?_
      intro W1 hR1 _ hE2
      refine plan_eff (by rfl) ?_
      intro N hN
      go_big_op
      refine (mixed3 6 11 25 (by decide) (by decide) (by decide) b4 hR1).mono ?_
      rintro e w' ⟨rfl, rfl⟩
      refine hN _ _ _ (fun _ => Ext.refl _) hE2 ?_
      repeat (first
        | (refine plan_pure (by rfl) ?_; intro N hN; go_big_quiet_op; go_big_quiet_on)
        | (refine plan_read (by rfl) ?_; intro N hN; go_big_quiet_op; go_big_quiet_on)
        | (refine plan_skip (by rfl) ?_; simp only [Act.put, List.setIfInBounds_toArray, List.set_cons_zero, List.set_cons_succ]))
      refine plan_nil ?_
      rw [t1_walk (d := v7) b4 b5 b6]
      generalize hT : t1 [v0, v1, v2, v3, v4, v5, v6, v7] (at_ consts k) (at_ (sched bs) k) = T
      have HT := Lib.hid hT
      clear hT hR1
      go_wp2
      refine wp_region_plan [] (.step 0 .pure (.step 3 .pure (.step 4 .pure (.step 5 .read (.step 6 .pure (.step 7 .pure (.step 8 .pure (.step 9 .read (.step 10 .pure (.step 11 .pure (.step 12 .pure (.step 13 .read (.step 14 .pure (.step 15 .read (.step 16 .pure (.step 17 .pure (.step 1 (.eff false) (.step 2 (.eff false) (.step 18 .pure (.step 19 .pure (.fin))))))))))))))))))))) (by kernel_rfl) (by kernel_rfl) (hE2) ?_
      simp only [pickOps, List.getD_cons_zero, List.getD_cons_succ]
      repeat (first
        | (refine plan_pure (by rfl) ?_; intro N hN; go_big_quiet_op; go_big_quiet_on)
        | (refine plan_read (by rfl) ?_; intro N hN; go_big_quiet_op; go_big_quiet_on)
        | (refine plan_skip (by rfl) ?_; simp only [Act.put, List.setIfInBounds_toArray, List.set_cons_zero, List.set_cons_succ]))
      refine plan_eff (by rfl) ?_
      intro N hN
      go_big_op
      refine plan_alloc hN hE2.drew ?_
      intro W2 hR2 _ hE3
      refine plan_eff (by rfl) ?_
      intro N hN
      go_big_op
      refine (mixed3 2 13 22 (by decide) (by decide) (by decide) b0 hR2).mono ?_
      rintro e w' ⟨rfl, rfl⟩
      refine hN _ _ _ (fun _ => Ext.refl _) hE3 ?_
      repeat (first
        | (refine plan_pure (by rfl) ?_; intro N hN; go_big_quiet_op; go_big_quiet_on)
        | (refine plan_read (by rfl) ?_; intro N hN; go_big_quiet_op; go_big_quiet_on)
        | (refine plan_skip (by rfl) ?_; simp only [Act.put, List.setIfInBounds_toArray, List.set_cons_zero, List.set_cons_succ]))
      refine plan_nil ?_
      rw [t2_walk b0 b1 b2]
      generalize hU : t2 [v0, v1, v2, v3, v4, v5, v6, v7] = U
      have HU := Lib.hid hU
      clear hU hR2
      have hrv2 := hrv.ext hE3
      have hrw2 := hrw.ext hE3
      have hEW := hE.trans hE3
      clear hrv hrw hE hE2 c0 c1 c2 c4 c5 c6 c7 cw
      go_wp2
      refine wp_region_plan [2] (.step 0 .pure (.step 1 .pure (.step 2 (.eff true) (.fin)))) (by kernel_rfl) (by kernel_rfl) (Ext.refl w') ?_
      simp only [pickOps, List.getD_cons_zero, List.getD_cons_succ]
      repeat (first
        | (refine plan_pure (by rfl) ?_; intro N hN; go_big_quiet_op; go_big_quiet_on)
        | (refine plan_read (by rfl) ?_; intro N hN; go_big_quiet_op; go_big_quiet_on)
        | (refine plan_skip (by rfl) ?_; simp only [Act.put, List.setIfInBounds_toArray, List.set_cons_zero, List.set_cons_succ]))
      refine plan_eff (by rfl) ?_
      intro N hN
      refine wp_copy_row _ _ _ _ rfl 83 Tryd.underlying84 (by kernel_rfl) rfl rfl hrv2.drew (vals .u32 [v0, v1, v2, v3, v4, v5, v6]) rfl (row_cells hrv2.drew 0 _ (by rfl)) (by simp [vals]) (oneCell_vals _ _) ?_
      intro w4 hr4 hg4
      refine hN _ w4 _ (fun h => by cases h) (Ext.refl _) ?_
      refine plan_nil ?_
      have hEW4 : Ext w w4 := hEW.drew.grown hg4 (fun k e => by cases e; exact hvb)
      have hrw4 : Row w4 wb _ _ := hrw2.drew.kept hg4 (fun e => hwv (Option.some.inj e))
      have hr5 : Row w4 vb 105 (vals .u32 [v0, v0, v1, v2, v3, v4, v5, v6]) := hr4
      have d0 := hr5.nat 0 (by simp)
      have d4 := hr5.nat 4 (by simp)
      have f0 := hr5.frozen 0
      have f4 := hr5.frozen 4
      clear hr4 hg4 hrv2 hrw2
      rw [show at_ [v0, v0, v1, v2, v3, v4, v5, v6] 4 = v3 from rfl] at d4
      go_wp2
      refine ⟨⟨k + 1, by omega, by go_num, [plus T U, v0, v1, v2, plus v3 T, v4, v5, v6], Lib.hid ?_, ?_, ?_, ?_⟩, by simp [intOf]; omega⟩
      · rw [Sha.rounds_succ, ← hvs.out]
        show _ = [plus (t1 _ _ _) (t2 _), v0, v1, v2, plus v3 (t1 _ _ _), v4, v5, v6]
        rw [HT.out, HU.out]
      · rw [plus_cast T U, plus_cast v3 T]
        exact (hr5.setNat 0 _).setNat 4 _
      · exact (hrw4.other hwv.symm _).other hwv.symm _
      · exact (hEW4.setCell hvb _).setCell hvb _
    · have hk' : k = 64 := by omega
      subst hk'
      have hne : hb ≠ vb := Nat.ne_of_lt (Nat.lt_of_lt_of_le hrh.lt hvb)
      have hrh2 := hrh.ext hE
      have hg2 : w.grownBy wr (some hb) := grown_of_ext hE _
      generalize hV : [v0, v1, v2, v3, v4, v5, v6, v7] = V at *
      have HVV : Hid (V.length = 8) := Lib.hid (by rw [← hV]; rfl)
      clear hV c0 c1 c2 c4 c5 c6 c7 b0 b1 b2 b4 b5 b6 hE hrw
      go_wp2
      go_loopw [82] (fun i wr => ∃ n : Nat, n ≤ 8 ∧ i = .int .i64 n ∧ ∃ cs : List Nat, Hid (cs = sums hs V n ++ hs.drop n) ∧ Row wr hb 105 (vals .u32 cs) ∧ Row wr vb 105 (vals .u32 V) ∧ w.grownBy wr (some hb)) (fun i _ => 8 - (intOf i).toNat)
      case atStart => exact ⟨0, Nat.zero_le _, rfl, hs, Lib.hid (by rw [sums_zero]; rfl), hrh2, hrv, hg2⟩
      case round =>
        clear hrh2 hrv hg2 hlt hk
        obtain ⟨n, hn, rfl, cs, hcs, hrh2, hrv, hg2⟩ := hrel
        by_cases hlt : n < 8
        · have hcl : cs.length = 8 := by rw [hcs.out, List.length_append, sums_length, List.length_drop, HHL.out]; omega
          have hat : at_ cs n = at_ hs n := by rw [hcs.out]; exact at_append_drop (sums_length _ _ _)
          have e1 : ∀ u, (wplus wr u).cell? ⟨hb, n, none⟩ = some (.int .u32 (at_ hs n : Nat)) := fun u => by rw [← hat]; exact (hrh2.plus u).nat n (by rw [hcl]; exact hlt)
          have e2 : ∀ u, (wplus wr u).cell? ⟨vb, n, none⟩ = some (.int .u32 (at_ V n : Nat)) := fun u => (hrv.plus u).nat n (by rw [HVV.out]; exact hlt)
          have e3 := hrh2.nat n (by rw [hcl]; exact hlt)
          have e4 := hrh2.frozen n
          have HCL2 := Lib.hid hcl
          clear hat hcl
          go_wp2
          refine wp_region_plan [11] (.step 0 .pure (.step 1 .pure (.step 2 .pure (.step 3 .pure (.step 4 .read (.step 5 .pure (.step 6 .pure (.step 7 .read (.step 8 .pure (.step 9 .pure (.step 10 .pure (.step 11 (.eff true) (.fin))))))))))))) (by kernel_rfl) (by kernel_rfl) (Ext.refl wr) ?_
          simp only [pickOps, List.getD_cons_zero, List.getD_cons_succ]
          repeat (first
            | (refine plan_pure (by rfl) ?_; intro N hN; go_big_quiet_op; go_big_quiet_on)
            | (refine plan_read (by rfl) ?_; intro N hN; go_big_quiet_op; go_big_quiet_on)
            | (refine plan_skip (by rfl) ?_; simp only [Act.put, List.setIfInBounds_toArray, List.set_cons_zero, List.set_cons_succ]))
          refine plan_eff (by rfl) ?_
          intro N hN
          go_big_op
          refine hN _ _ _ (fun h => by cases h) (Ext.refl _) ?_
          refine plan_nil ?_
          rw [plus_cast]
          go_wp2
          refine ⟨⟨n + 1, by omega, by go_num, cs.set n (plus (at_ hs n) (at_ V n)), Lib.hid ?_, hrh2.setNat _ _, hrv.other hne _, grown_drew (grown_setCell hg2 _ _)⟩, by simp [intOf]; omega⟩
          rw [hcs.out, sums_succ]
          exact set_append_drop (sums_length _ _ _) (by rw [HHL.out]; exact hlt)
        · have hn' : n = 8 := by omega
          subst hn'
          go_wp2
          refine bodyPost_end (results_none rfl _ _ _) rfl ⟨⟨_, rfl⟩, ?_, hg2⟩
          rw [block_eq, ← hvs.out, show sums hs V 8 = cs by rw [hcs.out, List.drop_of_length_le (by rw [HHL.out]; exact Nat.le_refl _), List.append_nil]]
          exact hrh2
end Go.Proofs.YtjamakapkpkfeaaDoor
