/- Contract of the law LinkForged. -/
import Derived.Test.YtjamakapkpkfeaaDoorDbl
import Derived.Test.YtjamakapkpkfeaaDoorInj
namespace Go.Proofs.YtjamakapkpkfeaaDoor
open Go.RowKit Go.Shelf Sha

/-- A whole row is written (an operation of a plan). -/
theorem wp_store_row {P : Program} {o : Oper} {a : Act} {w : World} {K : Act → World → Prop} {Q : Exit → Act → World → Prop} (ty : TypeId) (x y : Operand) (ho : o.op = .store ty x y)
    {b : Nat} {t : TypeId} {l : List Value} (hr : Row w b t l) (l' : List Value) (hx : a.eval x = .pointer (some ⟨b, 0, none⟩)) (hy : a.eval y = .agg l'.toArray) (hl : l'.length = l.length) (hi : (P.info? ty).map (·.size) = some l.length)
    (h1 : ∀ v ∈ l', v.oneCell' = true) (h : ∀ w', Row w' b t l' → w.grownBy w' (some b) → K (a.put o.dst undef) w') : o.wp P a w K Q := by
  have hs := run_storeVar_row (P := P) w b t ty l.toArray l'.toArray hr (by simpa [hl] using hi) (by simp [hl]) (all_oneCell_toArray h1)
  unfold Oper.wp execOp
  simp only [ho, hx, hy, Instr.storeAt, Instr.sureAddr, Sem.run_bind, Sem.run_pure, Result.andThen_ok, hs]
  exact h _ (hr.setRow l') (setRow_grown w b _)
set_option maxRecDepth 100000 in
/-- Two packets that differ are not equal. -/
theorem wpList_eql_ne {ops : Array Oper} {rest : List Oper} {op : Oper} {a : Act} {w : World} {Q : Exit → Act → World → Prop} (hgd : op.guard = none) (x y : Operand) (ho : op.op = .binOp .eql 24 x y 24)
    {p q : Pkt} (hx : a.eval x = p.val) (hy : a.eval y = q.val) (hne : p ≠ q) (h : wpList Tryd.prog ops Q rest (a.put op.dst (.bool false)) w) : wpList Tryd.prog ops Q (op :: rest) a w :=
  wpList_plain hgd fun _ hK => by
    obtain ⟨ps, pa, pb, pz⟩ := p
    obtain ⟨qs, qa, qb, qz⟩ := q
    have h2 : ¬ (ps = qs ∧ pa = qa ∧ pb.toList = qb.toList ∧ pz.toList = qz.toList) := fun h => hne (by obtain ⟨e1, e2, e3, e4⟩ := h; rw [e1, e2, str_eq.1 e3, str_eq.1 e4])
    unfold Pkt.val Pkt.cells at hx hy
    have hk := hK _ _ h
    clear h hK hne
    unfold Oper.wp execOp
    simp only [ho, hx, hy]
    simp [go_sem]
    have hres : (if ps = qs then if pa = qa then if pb.toList = qb.toList then if pz.toList = qz.toList then Result.ok (Next.value (Value.bool true)) w else Result.ok (Next.value (Value.bool false)) w else Result.ok (Next.value (Value.bool false)) w else Result.ok (Next.value (Value.bool false)) w else Result.ok (Next.value (Value.bool false)) w) = Result.ok (Next.value (Value.bool false)) w := by
      by_cases h1 : ps = qs
      · by_cases h3 : pa = qa
        · by_cases h4 : pb.toList = qb.toList
          · rw [if_pos h1, if_pos h3, if_pos h4, if_neg (fun h5 => h2 ⟨h1, h3, h4, h5⟩)]
          · rw [if_pos h1, if_pos h3, if_neg h4]
        · rw [if_pos h1, if_neg h3]
      · rw [if_neg h1]
    rw [hres]
    exact hk
theorem pickL4_any (c : Int) (hc : I64 c) (w : World) : Calls Tryd.prog 18 #[.int .i64 c, .int .i64 4] w fun e w' => e = .returned (.int .i64 (pickN c 4 : Nat)) ∧ w' = w := pickL_any c 4 (by decide) (by decide) hc w
theorem hashes_size (k : ByteArray) (p : Pkt) (hk : k.size = 32) (hb : p.body.size ≤ 200) : ∀ x ∈ hashes k p, x.size ≤ 1000000 := by
  have h1 := content_size p
  have h2 : (leaf (content p)).size = 32 := by unfold leaf; exact sha_size _
  intro x hx
  unfold hashes at hx
  rcases List.mem_cons.1 hx with rfl | hx
  · rw [ByteArray.size_append]; show 1 + _ ≤ _; omega
  · rw [List.mem_singleton.1 hx, ByteArray.size_append, ByteArray.size_append]; show 1 + _ + _ ≤ _; omega
theorem bent_seal (p : Pkt) (how : Nat) (hh : how < 4) (n : Int) : (bentP p (how : Int) n).sl = p.sl := by
  unfold bentP
  rw [show pickN (how : Int) 5 = how from by unfold pickN; rw [if_neg (by omega), Int.toNat_natCast, Nat.mod_eq_of_lt (by omega)]]
  rcases (show how = 0 ∨ how = 1 ∨ how = 2 ∨ how = 3 by omega) with rfl | rfl | rfl | rfl <;> rfl

set_option maxRecDepth 100000 in
set_option maxHeartbeats 4000000 in
theorem linkForged_any (w : World) (ht : Tab w) {v : Value} {n : Nat} {x : Nat → Nat → Int} (hops : Ops w v n x) (which how num : Int) (hwh : I64 which) (hhw : I64 how) (hnm : I64 num) :
    Calls Tryd.prog 7 #[v, .int .i64 which, .int .i64 how, .int .i64 num] w fun e w' => e = .returned (.bool true) ∧ Ext w w' := by
  have HO := Lib.hid hops
  obtain ⟨p, c, rfl, _⟩ := hops
  have HB1 := Lib.hid (busy_any w ht HO.out)
  have Hnet := Lib.hid (busy_net x (min n 12) (by omega)).1
  have Hsm := Lib.hid (busy_net x (min n 12) (by omega)).2
  have Hkey := Lib.hid (busy_key x (min n 12) (by omega) 0 (by omega))
  have hm12 : min n 12 ≤ 12 := by omega
  go_enter Tryd.func7, Tryd.ntmps7
  generalize busyM x (min n 12) = M at *
  go_wp2_with (go_at_call 39; with_reducible refine HB1.out.mono ?_; rintro e w1 ⟨E, fp, rfl, hE1, hT1⟩)
  have ht1 := ht.ext hE1
  clear HB1
  go_wp2_with (go_at_call 14; refine (sane_any _ ht1).mono ?_; rintro e w3 ⟨rfl, hE3⟩)
  have hT1 := Lib.hid (hT1.ext hE3)
  have ht3 := Lib.hid (ht1.ext hE3)
  have hEw := hE1.trans hE3
  clear hE1 hE3 ht1
  have hN : Net (M 0) (M 1) := Hnet.out
  have hle := out_le (M 0)
  have hpos := out_pos _ hN.okA
  have hins : (M 1).ins < 1000000 := by have := Hsm.out.ins 1 (by omega); omega
  have U0 := Lib.hid (outS_any (hT1.out.here 0 (by omega)) ht3.out)
  have Hgood : Hid (∀ (k : Nat) (pk : Pkt), (M 0).out[k]? = some pk → Genuine (keyAt 0) pk) := Lib.hid (fun k pk hk => by
    have := (sound_out hN.okA (List.mem_of_getElem? hk)).genuine hN.okA
    rw [Hkey.out] at this; exact this)
  have hoth : (M 1).other = keyAt 0 := by rw [← Hkey.out]; exact hN.keyA.symm
  clear hN Hnet Hsm
  generalize (M 0).out = out at *
  generalize hll : out.length = ol at *
  have Hll := Lib.hid hll
  clear hll
  have HP := Lib.hid (pickL_any which ol (by omega) (by omega) hwh)
  have hpk := pickN_lt which (n := ol) (by omega)
  generalize pickN which ol = k at *
  have HP4 := Lib.hid (pickL4_any how hhw)
  have hh4 := pickN_lt how (n := 4) (by decide)
  generalize pickN how 4 = h4 at *
  go_wp2_with (go_at_call 22; with_reducible refine U0.out.mono ?_; rintro e w4 ⟨p4, c4, rfl, hS4, hE4, _⟩)
  obtain ⟨pk, hpk2⟩ : ∃ pk, out[k]? = some pk := ⟨_, List.getElem?_eq_getElem (by rw [Hll.out]; exact hpk)⟩
  have Hgen := Lib.hid (Hgood.out k pk hpk2)
  have hS4' := hS4
  obtain ⟨_, _, _, h1, h2⟩ := hS4'
  obtain ⟨gs, h3, _⟩ := h2 (by omega)
  cases h1; subst h3
  clear h2
  have hc := hS4.pkt' (l := out) (show 0 < ol by omega) hpk2
  clear hpk2 Hgood
  have hBsz : pk.body.size ≤ 1000 := by have := Hgen.out.2.1.2.2.1; omega
  have HBe := Lib.hid (bent_any pk (h4 : Int) num ⟨by omega, by omega⟩ hnm hBsz)
  have Hsl := Lib.hid (bent_seal pk h4 hh4 num)
  have HGp := Lib.hid (fun W hW => genuine_any (keyAt 0) pk W hW)
  rw [decide_eq_true Hgen.out] at HGp
  generalize bentP pk (h4 : Int) num = q at *
  have Hcol : Hid (Genuine (keyAt 0) q → pk ≠ q → collides (hashes (keyAt 0) pk) (hashes (keyAt 0) q) = true) := Lib.hid (fun h1 h2 => forged Hgen.out h1 Hsl.out.symm h2)
  have hA4 := hT1.out.ext hE4
  have hb4 : EndAt w4 (fp 1) (E 1) (M 1) := hA4.here 1 (by omega)
  have hlow1 : ∀ j, fp 1 j → w.heap.size ≤ j := fun j hj => hT1.out.low 1 j (by omega) hj
  have hlt1 := hb4.lows
  have n0 : ¬ fp 1 0 := fun h => by have := hlow1 0 h; have := ht.pos; omega
  have ht4 := ht3.out.ext hE4
  have hEw4 := hEw.trans hE4
  generalize hB : M 1 = B at *
  clear hB hA4 hT1 hE4 ht3 hEw U0
  obtain ⟨ps, pa, pb, pz⟩ := pk
  have Hgenp := Hgen
  clear Hgen
  obtain ⟨qs, qa, qb, qz⟩ := q
  unfold Pkt.val Pkt.cells at *
  have o0 : w4.cell? ⟨gs, k * 4, none⟩ = some (.int .i64 ps) := hc 0 (by decide)
  have o1 : w4.cell? ⟨gs, k * 4 + 1, none⟩ = some (.int .i64 pa) := hc 1 (by decide)
  have o2 : w4.cell? ⟨gs, k * 4 + 2, none⟩ = some (.string pb) := hc 2 (by decide)
  have o3 : w4.cell? ⟨gs, k * 4 + 3, none⟩ = some (.string pz) := hc 3 (by decide)
  clear hc hS4
  have hr5 := Row.new w4 24 [.int .i64 ps, .int .i64 pa, .string pb, .string pz]
  have hE5 := (Ext.refl w4).alloc (.cells #[.int .i64 ps, .int .i64 pa, .string pb, .string pz] 24)
  go_wp2_with (go_at_call 18; with_reducible refine (HP.out _).mono ?_; rintro e w5 ⟨rfl, hw⟩; subst w5)
  simp only [List.toArray] at hr5
  generalize hw5 : w4.alloc (.cells #[.int .i64 ps, .int .i64 pa, .string pb, .string pz] 24) = w5 at *
  clear hw5 o0 o1 o2 o3
  have f0 : ∀ u, (wplus w5 u).cell? ⟨w4.heap.size, 0, none⟩ = some (.int .i64 ps) := fun u => (hr5.plus u).cell 0 (by show 0 < 4; decide)
  have f1 : ∀ u, (wplus w5 u).cell? ⟨w4.heap.size, 1, none⟩ = some (.int .i64 pa) := fun u => (hr5.plus u).cell 1 (by show 1 < 4; decide)
  have f2 : ∀ u, (wplus w5 u).cell? ⟨w4.heap.size, 2, none⟩ = some (.string pb) := fun u => (hr5.plus u).cell 2 (by show 2 < 4; decide)
  have f3 : ∀ u, (wplus w5 u).cell? ⟨w4.heap.size, 3, none⟩ = some (.string pz) := fun u => (hr5.plus u).cell 3 (by show 3 < 4; decide)
  refine wp_region_plan [6] (.step 0 .read (.step 1 .pure (.step 3 .pure (.br (.step 2 (.eff false) (.br (.step 4 (.eff false) (.step 5 (.eff false) (.step 6 (.eff true) (.fin)))) (.step 5 (.eff false) (.step 4 (.eff false) (.step 6 (.eff true) (.fin)))))) (.step 5 (.eff false) (.step 2 (.eff false) (.step 4 (.eff false) (.step 6 (.eff true) (.fin))))))))) (by kernel_rfl) (by kernel_rfl) (Ext.refl w5) ?_
  simp only [pickOps, List.getD_cons_zero, List.getD_cons_succ]
  repeat (first
    | (refine pure_n rfl ?_; intro N hN; go_big_quiet_op; go_big_quiet_on)
    | (refine read_n rfl ?_; intro N hN; go_big_quiet_op; go_big_quiet_on)
    | (refine pure_g rfl rfl rfl rfl ?_; intro N hN; go_big_quiet_op; go_big_quiet_on)
    | (refine read_g rfl rfl rfl rfl ?_; intro N hN; go_big_quiet_op; go_big_quiet_on)
    | (refine skip_g rfl rfl rfl rfl ?_; simp only [Act.put, List.setIfInBounds_toArray, List.set_cons_zero, List.set_cons_succ]))
  refine plan_br ?_ ?_
  refine eff_n rfl ?_
  intro N hN
  go_big_op
  refine (HP4.out _).mono ?_
  rintro e wx ⟨rfl, hwx⟩
  subst wx
  refine hN _ w5 _ (fun _ => Ext.refl _) (Ext.refl w5).drew ?_
  refine plan_br ?_ ?_
  refine eff_n rfl ?_
  intro N hN
  go_big_op
  refine (HBe.out _).mono ?_
  rintro e wb ⟨rfl, hEb⟩
  have hEc := (Ext.refl w5).drew.trans hEb
  refine hN _ w5 wb (fun _ => Ext.refl _) hEc ?_
  refine eff_n rfl ?_
  intro N hN
  go_big_op
  refine plan_alloc2 (l := [.int .i64 0, .int .i64 0, .string ⟨#[]⟩, .string ⟨#[]⟩]) hN hEc ?_
  intro W1 hQ0 hEd hE6
  refine eff_n rfl ?_
  intro N hN
  refine wp_store_row 24 _ _ rfl hQ0 [.int .i64 qs, .int .i64 qa, .string qb, .string qz] rfl rfl rfl (by kernel_rfl) (by intro u hu; simp at hu; rcases hu with rfl | rfl | rfl | rfl <;> rfl) ?_
  intro W hQ hg
  refine hN _ _ _ (fun h => by cases h) (Ext.refl _) ?_
  refine plan_nil ?_
  have hE7 : Ext w5 W := hE6.grown hg (fun k e => by cases e; exact hEc.size)
  have hb5 : w4.heap.size < wb.heap.size := Nat.lt_of_lt_of_le hr5.lt hEc.size
  clear hg hQ0
  generalize wb.heap.size = b at *
  rotate_left
  refine eff_n rfl ?_
  intro N hN
  go_big_op
  refine plan_alloc2 (l := [.int .i64 0, .int .i64 0, .string ⟨#[]⟩, .string ⟨#[]⟩]) hN (Ext.refl w5).drew ?_
  intro W1 hQ0 hEd hE6
  refine eff_n rfl ?_
  intro N hN
  go_big_op
  refine (HBe.out _).mono ?_
  rintro e wb ⟨rfl, hEb⟩
  have hEc := hEb
  refine hN _ W1 wb (fun _ => Ext.refl _) hEc ?_
  refine eff_n rfl ?_
  intro N hN
  refine wp_store_row 24 _ _ rfl (hQ0.ext hEc) [.int .i64 qs, .int .i64 qa, .string qb, .string qz] rfl rfl rfl (by kernel_rfl) (by intro u hu; simp at hu; rcases hu with rfl | rfl | rfl | rfl <;> rfl) ?_
  intro W hQ hg
  refine hN _ _ _ (fun h => by cases h) (Ext.refl _) ?_
  refine plan_nil ?_
  have hE7 : Ext w5 W := (hE6.trans hEc).grown hg (fun k e => by cases e; exact (Nat.le_refl w5.heap.size))
  have hb5 : w4.heap.size < w5.heap.size := hr5.lt
  have hQ : Row W w5.heap.size 24 [.int .i64 qs, .int .i64 qa, .string qb, .string qz] := hQ
  clear hg hQ0
  generalize w5.heap.size = b at *
  rotate_left
  refine eff_n rfl ?_
  intro N hN
  go_big_op
  refine plan_alloc2 (l := [.int .i64 0, .int .i64 0, .string ⟨#[]⟩, .string ⟨#[]⟩]) hN (Ext.refl w5).drew ?_
  intro W1 hQ0 hEd hE6
  refine eff_n rfl ?_
  intro N hN
  go_big_op
  refine (HP4.out _).mono ?_
  rintro e wx ⟨rfl, hwx⟩
  subst wx
  refine hN _ W1 _ (fun _ => Ext.refl _) (Ext.refl W1) ?_
  refine eff_n rfl ?_
  intro N hN
  go_big_op
  refine (HBe.out _).mono ?_
  rintro e wb ⟨rfl, hEb⟩
  have hEc := hEb
  refine hN _ W1 wb (fun _ => Ext.refl _) hEc ?_
  refine eff_n rfl ?_
  intro N hN
  refine wp_store_row 24 _ _ rfl (hQ0.ext hEc) [.int .i64 qs, .int .i64 qa, .string qb, .string qz] rfl rfl rfl (by kernel_rfl) (by intro u hu; simp at hu; rcases hu with rfl | rfl | rfl | rfl <;> rfl) ?_
  intro W hQ hg
  refine hN _ _ _ (fun h => by cases h) (Ext.refl _) ?_
  refine plan_nil ?_
  have hE7 : Ext w5 W := (hE6.trans hEc).grown hg (fun k e => by cases e; exact (Nat.le_refl w5.heap.size))
  have hb5 : w4.heap.size < w5.heap.size := hr5.lt
  have hQ : Row W w5.heap.size 24 [.int .i64 qs, .int .i64 qa, .string qb, .string qz] := hQ
  clear hg hQ0
  generalize w5.heap.size = b at *
  rotate_left
  all_goals
    have hP := hr5.ext hE7
    have htW := (ht4.ext hE5).ext hE7
    have hbW := (hb4.ext hE5).ext hE7
    have hEW := (hEw4.trans hE5).trans hE7
    have f0 : ∀ u, (wplus W u).cell? ⟨w4.heap.size, 0, none⟩ = some (.int .i64 ps) := fun u => (hP.plus u).cell 0 (by show 0 < 4; decide)
    have f1 : ∀ u, (wplus W u).cell? ⟨w4.heap.size, 1, none⟩ = some (.int .i64 pa) := fun u => (hP.plus u).cell 1 (by show 1 < 4; decide)
    have f2 : ∀ u, (wplus W u).cell? ⟨w4.heap.size, 2, none⟩ = some (.string pb) := fun u => (hP.plus u).cell 2 (by show 2 < 4; decide)
    have f3 : ∀ u, (wplus W u).cell? ⟨w4.heap.size, 3, none⟩ = some (.string pz) := fun u => (hP.plus u).cell 3 (by show 3 < 4; decide)
    go_wp2
    refine wp_region_plan [] (.step 1 .read (.step 0 (.eff false) (.step 2 (.eff false) (.step 3 .pure (.fin))))) (by kernel_rfl) (by kernel_rfl) (Ext.refl W) ?_
    simp only [pickOps, List.getD_cons_zero, List.getD_cons_succ]
    repeat (first
      | (refine pure_n rfl ?_; intro N hN; go_big_quiet_op; go_big_quiet_on)
      | (refine read_n rfl ?_; intro N hN; go_big_quiet_op; go_big_quiet_on)
      | (refine pure_g rfl rfl rfl rfl ?_; intro N hN; go_big_quiet_op; go_big_quiet_on)
      | (refine read_g rfl rfl rfl rfl ?_; intro N hN; go_big_quiet_op; go_big_quiet_on)
      | (refine skip_g rfl rfl rfl rfl ?_; simp only [Act.put, List.setIfInBounds_toArray, List.set_cons_zero, List.set_cons_succ]))
    refine eff_n rfl ?_
    intro N hN
    go_big_op
    refine (key0_any _).mono ?_
    rintro e wk ⟨rfl, hEk⟩
    have hF1 := (Ext.refl W).drew.trans hEk
    refine hN _ W wk (fun _ => Ext.refl _) hF1 ?_
    repeat (first
      | (refine pure_n rfl ?_; intro N hN; go_big_quiet_op; go_big_quiet_on)
      | (refine read_n rfl ?_; intro N hN; go_big_quiet_op; go_big_quiet_on)
      | (refine pure_g rfl rfl rfl rfl ?_; intro N hN; go_big_quiet_op; go_big_quiet_on)
      | (refine read_g rfl rfl rfl rfl ?_; intro N hN; go_big_quiet_op; go_big_quiet_on)
      | (refine skip_g rfl rfl rfl rfl ?_; simp only [Act.put, List.setIfInBounds_toArray, List.set_cons_zero, List.set_cons_succ]))
    refine eff_n rfl ?_
    intro N hN
    go_big_op
    refine (HGp.out _ (htW.ext hF1)).mono ?_
    rintro e wg ⟨rfl, hEg⟩
    have hF2 := hF1.trans hEg
    refine hN _ W wg (fun _ => Ext.refl _) hF2 ?_
    repeat (first
      | (refine pure_n rfl ?_; intro N hN; go_big_quiet_op; go_big_quiet_on)
      | (refine read_n rfl ?_; intro N hN; go_big_quiet_op; go_big_quiet_on)
      | (refine pure_g rfl rfl rfl rfl ?_; intro N hN; go_big_quiet_op; go_big_quiet_on)
      | (refine read_g rfl rfl rfl rfl ?_; intro N hN; go_big_quiet_op; go_big_quiet_on)
      | (refine skip_g rfl rfl rfl rfl ?_; simp only [Act.put, List.setIfInBounds_toArray, List.set_cons_zero, List.set_cons_succ]))
    refine plan_nil ?_
    have hP2 := hP.ext hF2
    have hQ2 := hQ.ext hF2
    clear f0 f1 f2 f3 hF1 hEk hEg hr5 hE5 hE7
    have c0 : wg.cell? ⟨w4.heap.size, 0, none⟩ = some (.int .i64 ps) := hP2.cell 0 (by show 0 < 4; decide)
    have c1 : wg.cell? ⟨w4.heap.size, 1, none⟩ = some (.int .i64 pa) := hP2.cell 1 (by show 1 < 4; decide)
    have c2 : wg.cell? ⟨w4.heap.size, 2, none⟩ = some (.string pb) := hP2.cell 2 (by show 2 < 4; decide)
    have c3 : wg.cell? ⟨w4.heap.size, 3, none⟩ = some (.string pz) := hP2.cell 3 (by show 3 < 4; decide)
    have d0 : wg.cell? ⟨b, 0, none⟩ = some (.int .i64 qs) := hQ2.cell 0 (by show 0 < 4; decide)
    have d1 : wg.cell? ⟨b, 1, none⟩ = some (.int .i64 qa) := hQ2.cell 1 (by show 1 < 4; decide)
    have d2 : wg.cell? ⟨b, 2, none⟩ = some (.string qb) := hQ2.cell 2 (by show 2 < 4; decide)
    have d3 : wg.cell? ⟨b, 3, none⟩ = some (.string qz) := hQ2.cell 3 (by show 3 < 4; decide)
    by_cases hpq : ps = qs ∧ pa = qa ∧ pb = qb ∧ pz = qz
    · obtain ⟨rfl, rfl, rfl, rfl⟩ := hpq
      go_wp2
      go_ret
      exact ⟨by kernel_rfl, hEW.trans hF2⟩
    · have Hne := Lib.hid hpq
      clear hpq
      have hN1 : (⟨ps, pa, pb, pz⟩ : Pkt) ≠ ⟨qs, qa, qb, qz⟩ := fun h => Hne.out (by cases h; exact ⟨rfl, rfl, rfl, rfl⟩)
      have HN1 := Lib.hid hN1
      clear hN1
      have hbG := hbW.ext hF2
      have hEG := hEW.trans hF2
      have htG := htW.ext hF2
      have HR := Lib.hid (fun W e => received_any (hbG.ext (W' := W) e))
      have HQ := Lib.hid (fun W e => waiting_any (hbG.ext (W' := W) e))
      have hX : Ext wg wg := Ext.refl _
      go_wp2_with (first
        | (refine wpList_eql_ne (p := ⟨ps, pa, pb, pz⟩) (q := ⟨qs, qa, qb, qz⟩) rfl _ _ rfl rfl rfl HN1.out ?_)
        | (go_at_call 35; with_reducible refine (HR.out _ hX).mono ?_; rintro e w7 ⟨rfl, hE7⟩; have hX := hX.trans hE7; clear hE7)
        | (go_at_call 33; with_reducible refine (HQ.out _ hX).mono ?_; rintro e w7 ⟨rfl, hE7⟩; have hX := hX.trans hE7; clear hE7))
      have g0 : ∀ u, (wplus w7 u).cell? ⟨b, 0, none⟩ = some (.int .i64 qs) := fun u => ((hQ2.ext hX).plus u).cell 0 (by show 0 < 4; decide)
      have g1 : ∀ u, (wplus w7 u).cell? ⟨b, 1, none⟩ = some (.int .i64 qa) := fun u => ((hQ2.ext hX).plus u).cell 1 (by show 1 < 4; decide)
      have g2 : ∀ u, (wplus w7 u).cell? ⟨b, 2, none⟩ = some (.string qb) := fun u => ((hQ2.ext hX).plus u).cell 2 (by show 2 < 4; decide)
      have g3 : ∀ u, (wplus w7 u).cell? ⟨b, 3, none⟩ = some (.string qz) := fun u => ((hQ2.ext hX).plus u).cell 3 (by show 3 < 4; decide)
      clear c0 c1 c2 c3 d0 d1 d2 d3
      have HGq := (fun W hW => genuine_any (keyAt 0) ⟨qs, qa, qb, qz⟩ W hW)
      by_cases hgq : Genuine (keyAt 0) ⟨qs, qa, qb, qz⟩
      · rw [decide_eq_true hgq] at HGq
        have Hcl := Lib.hid (Hcol.out hgq HN1.out)
        have hq := hgq.2.1
        have hp := Hgenp.out.2.1
        have hI : ∀ W, EndAt W (fp 1) (E 1) B → Tab W → Calls Tryd.prog 26 #[.pointer (some ⟨E 1, 0, none⟩), .agg #[.int .i64 qs, .int .i64 qa, .string qb, .string qz]] W fun e w' => ∃ v c, e = .returned (.tuple #[v, .int .i64 c]) ∧ Mod (fp 1) W w' := fun W hW hW2 => by
          by_cases htk : B.Takes ⟨qs, qa, qb, qz⟩
          · exact (inn_any hW hW2 hins _ htk).mono (fun e w' ⟨v, h1, _, h2, _⟩ => ⟨v, 0, h1, h2⟩)
          · exact (in_none hW hW2 _ htk).mono (fun e w' ⟨h1, h2⟩ => ⟨_, 410, h1, Mod.of_ext h2⟩)
        have HI := Lib.hid hI
        have HHp := Lib.hid (fun W => hashed_any (keyAt 0) (by rw [keyAt_size]; decide) ⟨ps, pa, pb, pz⟩ hp.1.1 (by have := hp.1.2; omega) hp.2.1.1 (by have := hp.2.1.2; omega) (by have := hp.2.2.1; omega) W)
        have HHq := Lib.hid (fun W => hashed_any (keyAt 0) (by rw [keyAt_size]; decide) ⟨qs, qa, qb, qz⟩ hq.1.1 (by have := hq.1.2; omega) hq.2.1.1 (by have := hq.2.1.2; omega) (by have := hq.2.2.1; omega) W)
        have HZp := Lib.hid (hashes_size (keyAt 0) ⟨ps, pa, pb, pz⟩ (keyAt_size 0) hp.2.2.1)
        have HZq := Lib.hid (hashes_size (keyAt 0) ⟨qs, qa, qb, qz⟩ (keyAt_size 0) hq.2.2.1)
        have HGq := Lib.hid HGq
        clear hgq hI hq hp
        refine wp_region_plan [] (.step 1 .read (.step 0 (.eff false) (.step 2 (.eff false) (.step 3 .pure (.fin))))) (by kernel_rfl) (by kernel_rfl) (Ext.refl w7) ?_
        simp only [pickOps, List.getD_cons_zero, List.getD_cons_succ]
        repeat (first
          | (refine pure_n rfl ?_; intro N hN; go_big_quiet_op; go_big_quiet_on)
          | (refine read_n rfl ?_; intro N hN; go_big_quiet_op; go_big_quiet_on)
          | (refine pure_g rfl rfl rfl rfl ?_; intro N hN; go_big_quiet_op; go_big_quiet_on)
          | (refine read_g rfl rfl rfl rfl ?_; intro N hN; go_big_quiet_op; go_big_quiet_on)
          | (refine skip_g rfl rfl rfl rfl ?_; simp only [Act.put, List.setIfInBounds_toArray, List.set_cons_zero, List.set_cons_succ]))
        refine eff_n rfl ?_
        intro N hN
        go_big_op
        refine (key0_any _).mono ?_
        rintro e wk ⟨rfl, hEk⟩
        have hF1 := (Ext.refl w7).drew.trans hEk
        refine hN _ w7 wk (fun _ => Ext.refl _) hF1 ?_
        repeat (first
          | (refine pure_n rfl ?_; intro N hN; go_big_quiet_op; go_big_quiet_on)
          | (refine read_n rfl ?_; intro N hN; go_big_quiet_op; go_big_quiet_on)
          | (refine pure_g rfl rfl rfl rfl ?_; intro N hN; go_big_quiet_op; go_big_quiet_on)
          | (refine read_g rfl rfl rfl rfl ?_; intro N hN; go_big_quiet_op; go_big_quiet_on)
          | (refine skip_g rfl rfl rfl rfl ?_; simp only [Act.put, List.setIfInBounds_toArray, List.set_cons_zero, List.set_cons_succ]))
        refine eff_n rfl ?_
        intro N hN
        go_big_op
        refine (HGq.out _ ((htG.ext hX).ext hF1)).mono ?_
        rintro e wh ⟨rfl, hEh⟩
        have hF2 := hF1.trans hEh
        refine hN _ w7 wh (fun _ => Ext.refl _) hF2 ?_
        repeat (first
          | (refine pure_n rfl ?_; intro N hN; go_big_quiet_op; go_big_quiet_on)
          | (refine read_n rfl ?_; intro N hN; go_big_quiet_op; go_big_quiet_on)
          | (refine pure_g rfl rfl rfl rfl ?_; intro N hN; go_big_quiet_op; go_big_quiet_on)
          | (refine read_g rfl rfl rfl rfl ?_; intro N hN; go_big_quiet_op; go_big_quiet_on)
          | (refine skip_g rfl rfl rfl rfl ?_; simp only [Act.put, List.setIfInBounds_toArray, List.set_cons_zero, List.set_cons_succ]))
        refine plan_nil ?_
        have hQh := (hQ2.ext hX).ext hF2
        have hPh := (hP2.ext hX).ext hF2
        have hbh := (hbG.ext hX).ext hF2
        have hth := (htG.ext hX).ext hF2
        have hEh := (hEG.trans hX).trans hF2
        have e0 : wh.cell? ⟨b, 0, none⟩ = some (.int .i64 qs) := hQh.cell 0 (by show 0 < 4; decide)
        have e1 : wh.cell? ⟨b, 1, none⟩ = some (.int .i64 qa) := hQh.cell 1 (by show 1 < 4; decide)
        have e2 : wh.cell? ⟨b, 2, none⟩ = some (.string qb) := hQh.cell 2 (by show 2 < 4; decide)
        have e3 : wh.cell? ⟨b, 3, none⟩ = some (.string qz) := hQh.cell 3 (by show 3 < 4; decide)
        clear g0 g1 g2 g3 hF1 hF2 hEk
        have n4 : ¬ fp 1 w4.heap.size := fun h => by have := hlt1 _ h; omega
        have nb : ¬ fp 1 b := fun h => by have := hlt1 _ h; omega
        go_wp2_with (go_at_call 26; with_reducible refine (HI.out _ hbh hth).mono ?_; rintro e w8 ⟨v8, c8, rfl, hm8⟩; have hP8 := hm8.row hPh n4; have hQ8 := hm8.row hQh nb; have hE8 := hEh.mod hm8 hlow1)
        have g0 : ∀ u, (wplus w8 u).cell? ⟨b, 0, none⟩ = some (.int .i64 qs) := fun u => (hQ8.plus u).cell 0 (by show 0 < 4; decide)
        have g1 : ∀ u, (wplus w8 u).cell? ⟨b, 1, none⟩ = some (.int .i64 qa) := fun u => (hQ8.plus u).cell 1 (by show 1 < 4; decide)
        have g2 : ∀ u, (wplus w8 u).cell? ⟨b, 2, none⟩ = some (.string qb) := fun u => (hQ8.plus u).cell 2 (by show 2 < 4; decide)
        have g3 : ∀ u, (wplus w8 u).cell? ⟨b, 3, none⟩ = some (.string qz) := fun u => (hQ8.plus u).cell 3 (by show 3 < 4; decide)
        have r0 : ∀ u, (wplus w8 u).cell? ⟨w4.heap.size, 0, none⟩ = some (.int .i64 ps) := fun u => (hP8.plus u).cell 0 (by show 0 < 4; decide)
        have r1 : ∀ u, (wplus w8 u).cell? ⟨w4.heap.size, 1, none⟩ = some (.int .i64 pa) := fun u => (hP8.plus u).cell 1 (by show 1 < 4; decide)
        have r2 : ∀ u, (wplus w8 u).cell? ⟨w4.heap.size, 2, none⟩ = some (.string pb) := fun u => (hP8.plus u).cell 2 (by show 2 < 4; decide)
        have r3 : ∀ u, (wplus w8 u).cell? ⟨w4.heap.size, 3, none⟩ = some (.string pz) := fun u => (hP8.plus u).cell 3 (by show 3 < 4; decide)
        refine wp_region_plan [] (.step 1 .read (.step 4 .read (.step 0 (.eff false) (.step 2 (.eff false) (.step 3 (.eff false) (.step 5 (.eff false) (.step 6 (.eff false) (.step 7 .pure (.fin))))))))) (by kernel_rfl) (by kernel_rfl) (Ext.refl w8) ?_
        simp only [pickOps, List.getD_cons_zero, List.getD_cons_succ]
        repeat (first
          | (refine pure_n rfl ?_; intro N hN; go_big_quiet_op; go_big_quiet_on)
          | (refine read_n rfl ?_; intro N hN; go_big_quiet_op; go_big_quiet_on)
          | (refine pure_g rfl rfl rfl rfl ?_; intro N hN; go_big_quiet_op; go_big_quiet_on)
          | (refine read_g rfl rfl rfl rfl ?_; intro N hN; go_big_quiet_op; go_big_quiet_on)
          | (refine skip_g rfl rfl rfl rfl ?_; simp only [Act.put, List.setIfInBounds_toArray, List.set_cons_zero, List.set_cons_succ]))
        refine eff_n rfl ?_
        intro N hN
        go_big_op
        refine (key0_any _).mono ?_
        rintro e y1 ⟨rfl, hEy1⟩
        have hG1 := (Ext.refl w8).drew.trans hEy1
        refine hN _ w8 y1 (fun _ => Ext.refl _) hG1 ?_
        repeat (first
          | (refine pure_n rfl ?_; intro N hN; go_big_quiet_op; go_big_quiet_on)
          | (refine read_n rfl ?_; intro N hN; go_big_quiet_op; go_big_quiet_on)
          | (refine pure_g rfl rfl rfl rfl ?_; intro N hN; go_big_quiet_op; go_big_quiet_on)
          | (refine read_g rfl rfl rfl rfl ?_; intro N hN; go_big_quiet_op; go_big_quiet_on)
          | (refine skip_g rfl rfl rfl rfl ?_; simp only [Act.put, List.setIfInBounds_toArray, List.set_cons_zero, List.set_cons_succ]))
        refine eff_n rfl ?_
        intro N hN
        go_big_op
        refine (HHp.out _).mono ?_
        rintro e y2 ⟨vp, rfl, hSp, hEy2⟩
        have hG2 := hG1.trans hEy2
        refine hN _ w8 y2 (fun _ => Ext.refl _) hG2 ?_
        repeat (first
          | (refine pure_n rfl ?_; intro N hN; go_big_quiet_op; go_big_quiet_on)
          | (refine read_n rfl ?_; intro N hN; go_big_quiet_op; go_big_quiet_on)
          | (refine pure_g rfl rfl rfl rfl ?_; intro N hN; go_big_quiet_op; go_big_quiet_on)
          | (refine read_g rfl rfl rfl rfl ?_; intro N hN; go_big_quiet_op; go_big_quiet_on)
          | (refine skip_g rfl rfl rfl rfl ?_; simp only [Act.put, List.setIfInBounds_toArray, List.set_cons_zero, List.set_cons_succ]))
        refine eff_n rfl ?_
        intro N hN
        go_big_op
        refine (key0_any _).mono ?_
        rintro e y3 ⟨rfl, hEy3⟩
        have hG3 := hG2.trans hEy3
        refine hN _ w8 y3 (fun _ => Ext.refl _) hG3 ?_
        repeat (first
          | (refine pure_n rfl ?_; intro N hN; go_big_quiet_op; go_big_quiet_on)
          | (refine read_n rfl ?_; intro N hN; go_big_quiet_op; go_big_quiet_on)
          | (refine pure_g rfl rfl rfl rfl ?_; intro N hN; go_big_quiet_op; go_big_quiet_on)
          | (refine read_g rfl rfl rfl rfl ?_; intro N hN; go_big_quiet_op; go_big_quiet_on)
          | (refine skip_g rfl rfl rfl rfl ?_; simp only [Act.put, List.setIfInBounds_toArray, List.set_cons_zero, List.set_cons_succ]))
        refine eff_n rfl ?_
        intro N hN
        go_big_op
        refine (HHq.out _).mono ?_
        rintro e y4 ⟨vq, rfl, hSq, hEy4⟩
        have hG4 := hG3.trans hEy4
        refine hN _ w8 y4 (fun _ => Ext.refl _) hG4 ?_
        repeat (first
          | (refine pure_n rfl ?_; intro N hN; go_big_quiet_op; go_big_quiet_on)
          | (refine read_n rfl ?_; intro N hN; go_big_quiet_op; go_big_quiet_on)
          | (refine pure_g rfl rfl rfl rfl ?_; intro N hN; go_big_quiet_op; go_big_quiet_on)
          | (refine read_g rfl rfl rfl rfl ?_; intro N hN; go_big_quiet_op; go_big_quiet_on)
          | (refine skip_g rfl rfl rfl rfl ?_; simp only [Act.put, List.setIfInBounds_toArray, List.set_cons_zero, List.set_cons_succ]))
        refine eff_n rfl ?_
        intro N hN
        go_big_op
        refine (collided_any _ _ ((hSp.ext hEy3).ext hEy4) hSq (by decide) (by decide) HZp.out HZq.out).mono ?_
        rintro e y5 ⟨rfl, hEy5⟩
        rw [Hcl.out]
        have hG5 := hG4.trans hEy5
        refine hN _ w8 y5 (fun _ => Ext.refl _) hG5 ?_
        repeat (first
          | (refine pure_n rfl ?_; intro N hN; go_big_quiet_op; go_big_quiet_on)
          | (refine read_n rfl ?_; intro N hN; go_big_quiet_op; go_big_quiet_on)
          | (refine pure_g rfl rfl rfl rfl ?_; intro N hN; go_big_quiet_op; go_big_quiet_on)
          | (refine read_g rfl rfl rfl rfl ?_; intro N hN; go_big_quiet_op; go_big_quiet_on)
          | (refine skip_g rfl rfl rfl rfl ?_; simp only [Act.put, List.setIfInBounds_toArray, List.set_cons_zero, List.set_cons_succ]))
        refine plan_nil ?_
        go_wp2
        go_ret
        exact ⟨by kernel_rfl, hE8.trans hG5⟩
      · rw [decide_eq_false hgq] at HGq
        have hnt : ¬ B.Takes ⟨qs, qa, qb, qz⟩ := fun h => hgq (by have := h.1; rw [hoth] at this; exact this)
        have HGq := Lib.hid HGq
        have hI : ∀ W, EndAt W (fp 1) (E 1) B → Tab W → Calls Tryd.prog 26 #[.pointer (some ⟨E 1, 0, none⟩), .agg #[.int .i64 qs, .int .i64 qa, .string qb, .string qz]] W fun e w' => e = .returned (.tuple #[.slice none 0 0, .int .i64 410]) ∧ Ext W w' := fun W hW hW2 => in_none hW hW2 ⟨qs, qa, qb, qz⟩ hnt
        have HI := Lib.hid hI
        clear hI
        clear hgq hnt
        refine wp_region_plan [] (.step 1 .read (.step 0 (.eff false) (.step 2 (.eff false) (.step 3 .pure (.fin))))) (by kernel_rfl) (by kernel_rfl) (Ext.refl w7) ?_
        simp only [pickOps, List.getD_cons_zero, List.getD_cons_succ]
        repeat (first
          | (refine pure_n rfl ?_; intro N hN; go_big_quiet_op; go_big_quiet_on)
          | (refine read_n rfl ?_; intro N hN; go_big_quiet_op; go_big_quiet_on)
          | (refine pure_g rfl rfl rfl rfl ?_; intro N hN; go_big_quiet_op; go_big_quiet_on)
          | (refine read_g rfl rfl rfl rfl ?_; intro N hN; go_big_quiet_op; go_big_quiet_on)
          | (refine skip_g rfl rfl rfl rfl ?_; simp only [Act.put, List.setIfInBounds_toArray, List.set_cons_zero, List.set_cons_succ]))
        refine eff_n rfl ?_
        intro N hN
        go_big_op
        refine (key0_any _).mono ?_
        rintro e wk ⟨rfl, hEk⟩
        have hF1 := (Ext.refl w7).drew.trans hEk
        refine hN _ w7 wk (fun _ => Ext.refl _) hF1 ?_
        repeat (first
          | (refine pure_n rfl ?_; intro N hN; go_big_quiet_op; go_big_quiet_on)
          | (refine read_n rfl ?_; intro N hN; go_big_quiet_op; go_big_quiet_on)
          | (refine pure_g rfl rfl rfl rfl ?_; intro N hN; go_big_quiet_op; go_big_quiet_on)
          | (refine read_g rfl rfl rfl rfl ?_; intro N hN; go_big_quiet_op; go_big_quiet_on)
          | (refine skip_g rfl rfl rfl rfl ?_; simp only [Act.put, List.setIfInBounds_toArray, List.set_cons_zero, List.set_cons_succ]))
        refine eff_n rfl ?_
        intro N hN
        go_big_op
        refine (HGq.out _ ((htG.ext hX).ext hF1)).mono ?_
        rintro e wh ⟨rfl, hEh⟩
        have hF2 := hF1.trans hEh
        refine hN _ w7 wh (fun _ => Ext.refl _) hF2 ?_
        repeat (first
          | (refine pure_n rfl ?_; intro N hN; go_big_quiet_op; go_big_quiet_on)
          | (refine read_n rfl ?_; intro N hN; go_big_quiet_op; go_big_quiet_on)
          | (refine pure_g rfl rfl rfl rfl ?_; intro N hN; go_big_quiet_op; go_big_quiet_on)
          | (refine read_g rfl rfl rfl rfl ?_; intro N hN; go_big_quiet_op; go_big_quiet_on)
          | (refine skip_g rfl rfl rfl rfl ?_; simp only [Act.put, List.setIfInBounds_toArray, List.set_cons_zero, List.set_cons_succ]))
        refine plan_nil ?_
        have hQh := (hQ2.ext hX).ext hF2
        have hPh := (hP2.ext hX).ext hF2
        have hbh := (hbG.ext hX).ext hF2
        have hth := (htG.ext hX).ext hF2
        have hEh := (hEG.trans hX).trans hF2
        have e0 : wh.cell? ⟨b, 0, none⟩ = some (.int .i64 qs) := hQh.cell 0 (by show 0 < 4; decide)
        have e1 : wh.cell? ⟨b, 1, none⟩ = some (.int .i64 qa) := hQh.cell 1 (by show 1 < 4; decide)
        have e2 : wh.cell? ⟨b, 2, none⟩ = some (.string qb) := hQh.cell 2 (by show 2 < 4; decide)
        have e3 : wh.cell? ⟨b, 3, none⟩ = some (.string qz) := hQh.cell 3 (by show 3 < 4; decide)
        clear g0 g1 g2 g3 hF1 hF2 hEk
        have HR2 := Lib.hid (fun W e => received_any (hbh.ext (W' := W) e))
        have HQ3 := Lib.hid (fun W e => waiting_any (hbh.ext (W' := W) e))
        have hY : Ext wh wh := Ext.refl _
        go_wp2_with (first
          | (go_at_call 26; with_reducible refine (HI.out _ hbh hth).mono ?_; rintro e w8 ⟨rfl, hE8⟩; have hY := hY.trans hE8; clear hE8)
          | (go_at_call 35; with_reducible refine (HR2.out _ hY).mono ?_; rintro e w8 ⟨rfl, hE8⟩; have hY := hY.trans hE8; clear hE8)
          | (go_at_call 33; with_reducible refine (HQ3.out _ hY).mono ?_; rintro e w8 ⟨rfl, hE8⟩; have hY := hY.trans hE8; clear hE8))
        go_ret
        exact ⟨by kernel_rfl, hEh.trans hY⟩
end Go.Proofs.YtjamakapkpkfeaaDoor
