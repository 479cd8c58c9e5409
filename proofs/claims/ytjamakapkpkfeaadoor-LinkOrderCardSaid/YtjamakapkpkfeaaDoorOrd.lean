/- Contract of the law LinkOrder. -/
import Derived.Test.YtjamakapkpkfeaaDoorAgain
import Derived.Test.YtjamakapkpkfeaaDoorSep
import Derived.Test.YtjamakapkpkfeaaDoorOrdP
import Derived.Test.YtjamakapkpkfeaaDoorDbl
namespace Go.Proofs.YtjamakapkpkfeaaDoor
open Go.RowKit Go.Shelf Sha

theorem outC_any {w : World} {fp : Nat → Prop} {E : Nat} {L : Lk} (h : EndAt w fp E L) (ht : Tab w) :
    Calls Tryd.prog 22 #[.pointer (some ⟨E, 0, none⟩)] w fun e w' => ∃ p c, e = .returned (.slice p L.out.length c) ∧ Sl w' (.slice p L.out.length c) 4 L.out.length (pcells L.out) ∧ Ext w w' ∧ (∀ g, (Value.slice p L.out.length c).ownBlock = some g → w.heap.size ≤ g) ∧ L.out.length ≤ c := by
  refine (out_any h ht).mono ?_
  rintro e w' ⟨v, rfl, ho, hE⟩
  obtain ⟨p, c, rfl, hc⟩ := (toOwn ho).form'
  exact ⟨p, c, rfl, (toOwn ho).sl, hE, fun g hg => ((toOwn ho).lt g hg).1, hc⟩
theorem pcells_erase (l : List Pkt) (k : Nat) : pcells (l.take k) ++ pcells (l.drop (k + 1)) = pcells (l.eraseIdx k) := by
  rw [List.eraseIdx_eq_take_drop_succ]; unfold pcells; rw [List.flatMap_append]
theorem pcells_drop (l : List Pkt) (k : Nat) : (pcells l).drop (k * 4) = pcells (l.drop k) := by
  induction l generalizing k with
  | nil => cases k <;> simp [pcells]
  | cons x l ih =>
    cases k with
    | zero => rw [Nat.zero_mul, List.drop_zero, List.drop_zero]
    | succ k =>
      rw [List.drop_succ_cons, ← ih k]
      show (x.cells ++ pcells l).drop ((k + 1) * 4) = _
      rw [List.drop_append, List.drop_eq_nil_of_le (by show 4 ≤ (k + 1) * 4; omega), List.nil_append]
      congr 1
      show (k + 1) * 4 - 4 = k * 4
      omega
theorem pcells_take (l : List Pkt) (k : Nat) : (pcells l).take (k * 4) = pcells (l.take k) := by
  induction l generalizing k with
  | nil => cases k <;> simp [pcells]
  | cons x l ih =>
    cases k with
    | zero => rw [Nat.zero_mul, List.take_zero, List.take_zero]; rfl
    | succ k =>
      rw [List.take_succ_cons]
      show (x.cells ++ pcells l).take ((k + 1) * 4) = x.cells ++ pcells (l.take k)
      rw [← ih k, List.take_append, List.take_of_length_le (by show 4 ≤ (k + 1) * 4; omega)]
      congr 2
      show (k + 1) * 4 - 4 = k * 4
      omega
theorem oneCell_svals (l : List ByteArray) : ∀ u ∈ svals l, u.oneCell' = true := by
  intro u hu
  obtain ⟨s, _, rfl⟩ := List.mem_map.1 hu
  rfl
theorem oneCell_pcells (l : List Pkt) : ∀ u ∈ pcells l, u.oneCell' = true := by
  intro u hu
  obtain ⟨s, _, hs⟩ := List.mem_flatMap.1 hu
  unfold Pkt.cells at hs
  simp at hs
  rcases hs with rfl | rfl | rfl | rfl <;> rfl
theorem svals_append (l r : List ByteArray) : svals (l ++ r) = svals l ++ svals r := by unfold svals; rw [List.map_append]
theorem svals_length (l : List ByteArray) : (svals l).length = l.length := by unfold svals; rw [List.length_map]
theorem Ints.ext {W W' : World} {v : Value} {n : Nat} {x : Nat → Int} (h : Ints W v n x) (e : Ext W W') : Ints W' v n x := by
  obtain ⟨p, c, rfl, h1, h2, h3⟩ := h
  refine ⟨p, c, rfl, h1, h2, fun hn => ?_⟩
  obtain ⟨g, o, rfl, h4⟩ := h3 hn
  exact ⟨g, o, rfl, fun i hi => e.cell (h4 i hi)⟩
theorem Ints.cell {W : World} {n : Nat} {x : Nat → Int} {g o c : Nat} (h : Ints W (.slice (some ⟨g, o, none⟩) n c) n x) {i : Nat} (hi : i < n) : W.cell? ⟨g, o + i, none⟩ = some (.int .i64 (x i)) := by
  obtain ⟨p, c', he, _, _, h2⟩ := h
  obtain ⟨g', o', rfl, h3⟩ := h2 (by omega)
  cases he
  exact h3 i hi

theorem Sl.blk {W : World} {v : Value} {size n : Nat} {xs : List Value} (h : Sl W v size n xs) (hn : 0 < n * size) (g : Nat) (hg : v.ownBlock = some g) : g < W.heap.size := by
  obtain ⟨h1, p, c, rfl, h2⟩ := h
  obtain ⟨g', rfl, h3⟩ := h2 (Nat.pos_of_mul_pos_right hn)
  simp [Value.ownBlock] at hg
  subst hg
  have hx : xs[0]? = some xs[0] := List.getElem?_eq_getElem (by omega)
  exact lt_of_cell (h3 0 _ hx)

set_option maxRecDepth 100000 in
set_option maxHeartbeats 4000000 in
theorem linkOrder_any (w : World) (ht : Tab w) {v : Value} {n : Nat} {x : Nat → Nat → Int} (hops : Ops w v n x) {v2 : Value} {m : Nat} {y : Nat → Int} (hints : Ints w v2 m y) :
    Calls Tryd.prog 10 #[v, v2] w fun e w' => e = .returned (.bool true) ∧ Ext w w' := by
  have HO := Lib.hid hops
  obtain ⟨p, c, rfl, _⟩ := hops
  have HI := Lib.hid hints
  obtain ⟨p2, c2, rfl, hm2, hy64, _⟩ := hints
  simp only [maxLen] at hm2
  have Hy := Lib.hid hy64
  clear hy64
  have HB1 := Lib.hid (busy_any w ht HO.out)
  have Hnet := Lib.hid (busy_net x (min n 12) (by omega)).1
  have Hsm := Lib.hid (busy_net x (min n 12) (by omega)).2
  have hm12 : min n 12 ≤ 12 := by omega
  go_enter Tryd.func10, Tryd.ntmps10
  go_wp2_with (go_at_call 39; with_reducible refine HB1.out.mono ?_; rintro e w1 ⟨E, fp, rfl, hE1, hT1⟩)
  have HB2 := Lib.hid (busy_any w1 (ht.ext hE1) (HO.out.ext hE1))
  generalize busyM x (min n 12) = M at *
  go_wp2_with (go_at_call 39; with_reducible refine HB2.out.mono ?_; rintro e w2 ⟨E2, fp2, rfl, hE2, hT2⟩)
  have ht2 := (ht.ext hE1).ext hE2
  have Hlt1 := Lib.hid ((hT1.here 1 (by omega)).lows)
  clear HB1 HB2
  go_wp2_with (go_at_call 14; refine (sane_any _ ht2).mono ?_; rintro e w3 ⟨rfl, hE3⟩)
  have hT1 := Lib.hid ((hT1.ext hE2).ext hE3)
  have hT2 := Lib.hid (hT2.ext hE3)
  have ht3 := Lib.hid (ht2.ext hE3)
  have hEw := (hE1.trans hE2).trans hE3
  have hw1 := hE1.size
  clear hE1 hE2 hE3 ht2
  have hN : Net (M 0) (M 1) := Hnet.out
  have hle := out_le (M 0)
  have hpos := out_pos _ hN.okA
  have hins : (M 1).ins ≤ 1000 := by have := Hsm.out.ins 1 (by omega); omega
  have HR0 := Lib.hid (Rest.start hN)
  clear hN Hnet Hsm
  have U0 := Lib.hid (outS_any (hT1.out.here 0 (by omega)) ht3.out)
  have U1 := Lib.hid (fun W (e : Ext w3 W) => outC_any ((hT2.out.ext e).here 0 (by omega)) (ht3.out.ext e))
  generalize hS : M 0 = S at *
  generalize hR0 : M 1 = R0 at *
  have HS := Lib.hid hS
  have HM1 := Lib.hid hR0
  clear hS hR0
  generalize hout : S.out = out at *
  have Hout := Lib.hid hout
  clear hout
  generalize hll : out.length = ol at *
  have Hll := Lib.hid hll
  clear hll
  go_wp2_with (go_at_call 22; with_reducible refine U0.out.mono ?_; rintro e w4 ⟨p4, c4, rfl, hS4, hE4, hg4⟩)
  go_wp2_with (go_at_call 22; with_reducible refine (U1.out _ hE4).mono ?_; rintro e w5 ⟨p5, c5, rfl, hS5, hE5, hg5, hc5⟩)
  have HSm := Lib.hid (same_any _ _ (hS4.ext hE5) hS5 (by omega) (by omega))
  go_wp2_with (go_at_call 23; with_reducible refine HSm.out.mono ?_; rintro e w6 ⟨rfl, hE6⟩; rw [decide_eq_true rfl])
  have hX6 := (hE4.trans hE5).trans hE6
  have hb01 : ∀ j, fp 1 j → j < w3.heap.size := fun j hj => (hT1.out.here 1 (by omega)).lows j hj
  have hb02 : ∀ j, fp2 1 j → j < w3.heap.size := fun j hj => (hT2.out.here 1 (by omega)).lows j hj
  have Hg4 := Lib.hid (show ∀ g, (Value.slice p4 ol c4).ownBlock = some g → ¬ (fp 1 g ∨ w6.heap.size ≤ g) from fun g hg h => by
    have h1 := hg4 g hg
    have h2 := hE4.size; have h3 := hE5.size; have h4 := hE6.size
    have h5 := hS4.blk (by omega) g hg
    rcases h with h | h
    · have := hb01 g h; omega
    · omega)
  have Hg5 := Lib.hid (show ∀ g, (Value.slice p5 ol c5).ownBlock = some g → ¬ (fp 1 g ∨ w6.heap.size ≤ g) ∧ ¬ fp2 1 g from fun g hg => by
    have h1 := hg5 g hg
    have h2 := hE4.size; have h3 := hE5.size; have h4 := hE6.size
    have h5 := hS5.blk (by omega) g hg
    refine ⟨fun h => ?_, fun h => ?_⟩
    · rcases h with h | h
      · have := hb01 g h; omega
      · omega
    · have := hb02 g h; omega)
  have hS4 := Lib.hid ((hS4.ext hE5).ext hE6)
  have hS5 := Lib.hid (hS5.ext hE6)
  have hA6 := hT1.out.ext hX6
  have hB6 := hT2.out.ext hX6
  have hb : EndAt w6 (fp 1) (E 1) R0 := by rw [← HM1.out]; exact hA6.here 1 (by omega)
  have hd : EndAt w6 (fp2 1) (E2 1) R0 := by rw [← HM1.out]; exact hB6.here 1 (by omega)
  have hlow1 : ∀ j, fp 1 j → w.heap.size ≤ j := fun j hj => hT1.out.low 1 j (by omega) hj
  have hlow2 : ∀ j, fp2 1 j → w.heap.size ≤ j := fun j hj => by have := hT2.out.low 1 j (by omega) hj; omega
  have hlt1 : ∀ j, fp 1 j → j < w1.heap.size := Hlt1.out
  have hge2 : ∀ j, fp2 1 j → w1.heap.size ≤ j := fun j hj => hT2.out.low 1 j (by omega) hj
  have hb4 : ∀ g, (Value.slice p4 ol c4).ownBlock = some g → ¬ (fp 1 g ∨ w6.heap.size ≤ g) := Hg4.out
  have hb5 : ∀ g, (Value.slice p5 ol c5).ownBlock = some g → ¬ (fp 1 g ∨ w6.heap.size ≤ g) ∧ ¬ fp2 1 g := Hg5.out
  have n0 : ¬ (fp 1 0 ∨ w6.heap.size ≤ 0) := fun h => by have := ht.pos; rcases h with h | h; have := hlow1 0 h; omega; have := (hEw.trans hX6).size; omega
  have ht6 := ht3.out.ext hX6
  have hEw6 := hEw.trans hX6
  have hw6 : w.heap.size ≤ w6.heap.size := hEw6.size
  have hw36 : w3.heap.size ≤ w6.heap.size := hX6.size
  have hl6 : ∀ j, fp 1 j → j < w6.heap.size := hb.lows
  have hm6 : Hid (Mod (fun j => fp 1 j ∨ w6.heap.size ≤ j) w6 w6) := Lib.hid (Mod.refl _ _)
  clear hE4 hE5 hE6 hg4 hg5 Hg4 Hg5 Hlt1 U0 U1 hT1 hT2 hA6 hB6 HSm ht3 hEw hX6
  go_loopw [13, 14] (fun got i wr => ∃ (k : Nat) (R : Lk) (o : List ByteArray), k ≤ ol ∧ i = .int .i64 k ∧ Hid (Rest S R0 R o (out.drop k)) ∧ Hid (Own wr w6.heap.size 9 1 got o.length (svals o)) ∧ Hid (EndAt wr (fp 1) (E 1) R) ∧ Hid (Mod (fun j => fp 1 j ∨ w6.heap.size ≤ j) w6 wr)) (fun _ i _ => ol - (intOf i).toNat)
  case atStart => exact ⟨0, R0, [], Nat.zero_le _, rfl, HR0, Lib.hid (Own.nil _ _ _ _), Lib.hid hb, hm6⟩
  case round =>
    clear hb hm6
    obtain ⟨k, R, o, hk, rfl, HR, HO2, HE, HM⟩ := hrel
    obtain ⟨pg, cg, rfl, _⟩ := HO2.out.form'
    by_cases hlt : k < ol
    · obtain ⟨pk, hpk⟩ : ∃ pk, out[k]? = some pk := ⟨_, List.getElem?_eq_getElem (by rw [Hll.out]; exact hlt)⟩
      obtain ⟨htk, hri, hst⟩ := HR.out.step hins (k := 0) (p := pk) (by rw [List.getElem?_drop]; exact hpk)
      rw [List.eraseIdx_zero, List.tail_drop] at hst
      have hln := hst.len
      rw [List.length_append] at hln
      have HST := Lib.hid hst
      clear hst
      have hS4w := hS4.out.mod HM.out hb4
      obtain ⟨_, _, _, h1, h2⟩ := hS4w
      obtain ⟨gs, h3, _⟩ := h2 (by omega)
      cases h1; subst h3
      clear h2
      have hc := (hS4.out.mod HM.out hb4).pkt' (l := out) (show 0 < ol by omega) hpk
      have htr := HM.out.tab ht6 n0
      have HIn := Lib.hid (inn_any HE.out htr hri pk htk)
      obtain ⟨ps, pa, pb, pz⟩ := pk
      unfold Pkt.val Pkt.cells at *
      have o0 : wr.cell? ⟨gs, k * 4, none⟩ = some (.int .i64 ps) := hc 0 (by decide)
      have o1 : wr.cell? ⟨gs, k * 4 + 1, none⟩ = some (.int .i64 pa) := hc 1 (by decide)
      have o2 : wr.cell? ⟨gs, k * 4 + 2, none⟩ = some (.string pb) := hc 2 (by decide)
      have o3 : wr.cell? ⟨gs, k * 4 + 3, none⟩ = some (.string pz) := hc 3 (by decide)
      clear hc hpk htk
      generalize R.inn ⟨ps, pa, pb, pz⟩ = r at *
      go_wp2_with (first
        | (go_at_call 26; with_reducible refine HIn.out.mono ?_; rintro e w7 ⟨v7, rfl, ho7, hm7, hE7⟩; have hown7 := hm7.own HO2.out (fun k hk hf => by have := (HO2.out.lt k hk).1; have := hl6 k hf; omega); have hM7 := HM.out.trans hm7 (fun j hj => .inl (.inl hj)); have hz7 := hM7.size; obtain ⟨p7, c7, rfl, _⟩ := ho7.form')
        | (at_builtin; go_loud (refine wpList_append_S rfl _ _ 44 rfl w6.heap.size 9 (.string ByteArray.empty) 1 16 Tryd.underlying44 (by kernel_rfl) rfl (by decide) hown7 rfl (svals r.2) rfl ho7.sl.src (oneCell_svals _) (by simp only [maxLen]; omega) (by omega) (by omega) ?_; intro v8 w8 ho8 hg8 hn8)))
      rw [← svals_append, ← List.length_append] at ho8
      refine ⟨⟨k + 1, r.1, o ++ r.2, by omega, by go_num, HST, Lib.hid ho8, Lib.hid (hE7.mod ((Mod.refl (fun j => (Value.slice pg o.length cg).ownBlock = some j) w7).grown hg8 (fun k hk => .inl hk)) (fun j hj hf => ?_)), Lib.hid (hM7.grown hg8 (fun k hk => .inl (.inr (HO2.out.lt k hk).1)))⟩, by simp [intOf]; omega⟩
      have := (HO2.out.lt j hf).1; have := hl6 j hj; omega
    · have hk' : k = ol := by omega
      subst hk'
      obtain ⟨wa, hwa⟩ : ∃ u, u = wr := ⟨_, rfl⟩
      subst hwa
      have hdr : out.drop k = [] := List.drop_eq_nil_of_le (by rw [Hll.out]; exact Nat.le_refl _)
      have HRa : Hid (Rest S R0 R o []) := Lib.hid (by have := HR.out; rwa [hdr] at this)
      have hd7 : EndAt wa (fp2 1) (E2 1) R0 := hd.mod HM.out (fun j hj hf => by
        have h1 := hge2 j hj; have h2 := hd.lows j hj
        rcases hf with h | h
        · have := hlt1 j h; omega
        · omega)
      have hS7 := Lib.hid (hS5.out.mod HM.out (fun g hg => (hb5 g hg).1))
      have hg7 : Hid (∀ g, (Value.slice p5 out.length c5).ownBlock = some g → ¬ fp2 1 g ∧ g < wa.heap.size ∧ (Value.slice none 0 0).ownBlock ≠ some g) := Lib.hid (fun g hg => ⟨(hb5 g (by rw [← Hll.out]; exact hg)).2, hS7.out.blk (by omega) g (by rw [← Hll.out]; exact hg), by simp [Value.ownBlock]⟩)
      have htr := HM.out.tab ht6 n0
      have hEr : Ext w wa := hEw6.modGe HM.out (fun j hj => by rcases hj with h | h; exact hlow1 j h; omega)
      have hl7 : ∀ j, fp2 1 j → j < wa.heap.size := hd7.lows
      have n7 : ¬ (fp2 1 0 ∨ wa.heap.size ≤ 0) := fun h => by have := ht.pos; rcases h with h | h; have := hlow2 0 h; omega; have := hEr.size; omega
      have hm7 : Hid (Mod (fun j => fp2 1 j ∨ wa.heap.size ≤ j) wa wa) := Lib.hid (Mod.refl _ _)
      have hS7 : Hid (Sl wa (.slice p5 out.length c5) 4 out.length (pcells out)) := Lib.hid (by have := hS7.out; rw [← Hll.out] at this; exact this)
      have hc5' : out.length ≤ c5 := by rw [Hll.out]; exact hc5
      have hol4 : out.length ≤ 4 := by rw [Hll.out]; exact hle
      have HOa := Lib.hid HO2.out
      have HEa := Lib.hid HE.out
      clear hdr HR hS5 hb5 hd hb4 hS4 HO2 HE HM ht6 hEw6 hm2 hlt
      rw [← Hll.out]
      go_wp2
      go_loopw [12, 17, 18] (fun t oo i wq => ∃ (k : Nat) (D : Lk) (o2 : List ByteArray) (rest : List Pkt) (pt : Option Addr) (ct : Nat), i = .int .i64 k ∧ k + rest.length = out.length ∧ rest.length ≤ ct ∧ t = .slice pt rest.length ct ∧ Hid (Rest S R0 D o2 rest) ∧ Hid (Sl wq (.slice pt rest.length ct) 4 rest.length (pcells rest)) ∧ Hid (∀ g, (Value.slice pt rest.length ct).ownBlock = some g → ¬ fp2 1 g ∧ g < wq.heap.size ∧ oo.ownBlock ≠ some g) ∧ Hid (Own wq wa.heap.size 9 1 oo o2.length (svals o2)) ∧ Hid (EndAt wq (fp2 1) (E2 1) D) ∧ Hid (Mod (fun j => fp2 1 j ∨ wa.heap.size ≤ j) wa wq)) (fun t _ _ _ => lenV t)
      case atStart => exact ⟨0, R0, [], out, p5, c5, rfl, Nat.zero_add _, hc5', rfl, HR0, hS7, hg7, Lib.hid (Own.nil _ _ _ _), Lib.hid hd7, hm7⟩
      case round =>
        clear HR0 hS7 hg7 hd7 hm7
        obtain ⟨k, D, o2, rest, pt, ct, rfl, hkr, hct, rfl, HR, HS2, HG, HO2, HE, HM⟩ := hrel
        obtain ⟨pg2, cg2, rfl, _⟩ := HO2.out.form'
        have hrl : rest.length ≤ 4 := by omega
        by_cases hlt : 0 < rest.length
        · have kk : ∃ kk, kk < rest.length ∧ Hid (kk = if k < m then pickN (y k) rest.length else 0) := ⟨_, by split; exact pickN_lt _ hlt; exact hlt, Lib.hid rfl⟩
          obtain ⟨kk, hkk, Hkk⟩ := kk
          obtain ⟨pk, hpk⟩ : ∃ pk, rest[kk]? = some pk := ⟨_, List.getElem?_eq_getElem hkk⟩
          obtain ⟨htk, hri, hst⟩ := HR.out.step hins hpk
          have hln := hst.len
          rw [List.length_append] at hln
          have HST := Lib.hid hst
          clear hst
          have hS2 := HS2.out
          obtain ⟨_, _, _, h1, h2⟩ := hS2
          obtain ⟨gs, h3, _⟩ := h2 hlt
          cases h1; subst h3
          clear h2
          have hc := HS2.out.pkt' hlt hpk
          have htq := HM.out.tab htr n7
          have HIn := Lib.hid (inn_any HE.out htq hri pk htk)
          obtain ⟨ps, pa, pb, pz⟩ := pk
          unfold Pkt.val Pkt.cells at *
          have o0 : wr.cell? ⟨gs, kk * 4, none⟩ = some (.int .i64 ps) := hc 0 (by decide)
          have o1 : wr.cell? ⟨gs, kk * 4 + 1, none⟩ = some (.int .i64 pa) := hc 1 (by decide)
          have o2' : wr.cell? ⟨gs, kk * 4 + 2, none⟩ = some (.string pb) := hc 2 (by decide)
          have o3 : wr.cell? ⟨gs, kk * 4 + 3, none⟩ = some (.string pz) := hc 3 (by decide)
          clear hc hpk htk
          generalize D.inn ⟨ps, pa, pb, pz⟩ = r at *
          have HP := Lib.hid (pickL_any (y k) rest.length hlt (by omega) (Hy.out k))
          obtain ⟨ln, Hln⟩ : ∃ ln, Hid (rest.length = ln) := ⟨_, Lib.hid rfl⟩
          by_cases hkm : k < m
          · have hce : ∃ gi oi, p2 = some ⟨gi, oi, none⟩ ∧ wr.cell? ⟨gi, oi + k, none⟩ = some (.int .i64 (y k)) := by
              have hI := HI.out.ext (hEr.modGe HM.out (fun j hj => by rcases hj with h | h; exact hlow2 j h; have := hEr.size; omega))
              obtain ⟨_, _, h1, _, _, h2⟩ := hI
              obtain ⟨gi, oi, h3, h4⟩ := h2 (by omega)
              cases h1
              exact ⟨gi, oi, h3, h4 k hkm⟩
            obtain ⟨gi, oi, rfl, hce⟩ := hce
            have hkk' : Hid (pickN (y k) rest.length = kk) := Lib.hid (by have := Hkk.out; rw [if_pos hkm] at this; exact this.symm)
            rw [hkk'.out] at HP
            go_wp2_with (first
              | (go_at_call 18; with_reducible refine (HP.out _).mono ?_; rintro e w7 ⟨rfl, hw⟩; subst w7)
              | (go_at_call 26; with_reducible refine HIn.out.mono ?_; rintro e w7 ⟨v7, rfl, ho7, hm7, hE7⟩; have hown7 := hm7.own HO2.out (fun k hk hf => by have := (HO2.out.lt k hk).1; have := hl7 k hf; omega); have hM7 := HM.out.trans hm7 (fun j hj => .inl (.inl hj)); have hz7 := hM7.size; obtain ⟨p7, c7, rfl, _⟩ := ho7.form')
              | (at_builtin; go_loud (refine wpList_append_S rfl _ _ 44 rfl wa.heap.size 9 (.string ByteArray.empty) 1 16 Tryd.underlying44 (by kernel_rfl) rfl (by decide) hown7 rfl (svals r.2) rfl ho7.sl.src (oneCell_svals _) (by simp only [maxLen]; omega) (by omega) (by omega) ?_; intro v8 w8 ho8 hg8 hn8)))
            have hc8 : Hid (Sl w8 (.slice (some ⟨gs, 0, none⟩) rest.length ct) 4 rest.length (pcells rest)) := Lib.hid ((HS2.out.mod hm7 (fun g hg => (HG.out g hg).1)).mod ((Mod.refl (fun j => (Value.slice pg2 o2.length cg2).ownBlock = some j) w7).grown hg8 (fun k hk => .inl hk)) (fun g hg => (HG.out g hg).2.2))
            refine wp_region_plan [] (.step 0 .pure (.step 1 .pure (.step 2 .pure (.step 3 .pure (.step 4 .pure (.step 5 .pure (.step 6 .pure (.step 7 .pure (.step 8 (.eff false) (.step 9 .pure (.fin))))))))))) (by kernel_rfl) (by kernel_rfl) (Ext.refl w8) ?_
            simp only [pickOps, List.getD_cons_zero, List.getD_cons_succ]
            repeat (first
              | (refine pure_n rfl ?_; intro N hN; go_big_quiet_op; go_big_quiet_on)
              | (refine read_n rfl ?_; intro N hN; go_big_quiet_op; go_big_quiet_on)
              | (refine pure_g rfl rfl rfl rfl ?_; intro N hN; go_big_quiet_op; go_big_quiet_on)
              | (refine read_g rfl rfl rfl rfl ?_; intro N hN; go_big_quiet_op; go_big_quiet_on)
              | (refine skip_g rfl rfl rfl rfl ?_; simp only [Act.put, List.setIfInBounds_toArray, List.set_cons_zero, List.set_cons_succ]))
            refine eff_n rfl ?_
            intro N hN
            refine wp_append_cut _ _ 37 rfl 24 (.agg #[.int .i64 0, .int .i64 0, .string ⟨#[]⟩, .string ⟨#[]⟩]) 4 48 Tryd.underlying37 (by kernel_rfl) (g := gs) (n := kk) (xs := pcells (rest.take kk)) rfl ?_ ?_ (m := rest.length - (kk + 1)) (pcells (rest.drop (kk + 1))) rfl ?_ ?_ ?_ ?_
            · rw [pcells_length, List.length_take]; omega
            · intro j u hu
              have hj : j < kk * 4 := by have := (List.getElem?_eq_some_iff.1 hu).1; rw [pcells_length, List.length_take] at this; omega
              rw [← pcells_take, List.getElem?_take_of_lt hj] at hu
              obtain ⟨_, _, _, h1, h2⟩ := hc8.out
              obtain ⟨g', h3, h4⟩ := h2 hlt
              cases h1; cases h3
              exact h4 j u hu
            · refine ⟨_, _, rfl, by rw [pcells_length, List.length_drop], fun hm => ?_⟩
              rw [if_neg (by omega)]
              refine ⟨_, rfl, fun j u hu => ?_⟩
              have hj : j < (rest.length - (kk + 1)) * 4 := by have := (List.getElem?_eq_some_iff.1 hu).1; rw [pcells_length, List.length_drop] at this; omega
              rw [← pcells_drop, List.getElem?_drop] at hu
              obtain ⟨_, _, _, h1, h2⟩ := hc8.out
              obtain ⟨g', h3, h4⟩ := h2 hlt
              cases h1; cases h3
              rw [Addr.add_mid]
              exact h4 _ u hu
            · simp only [maxLen]; omega
            · omega
            · intro p9 c9 w9 hS9 hE9 hg9 hcap9
              have hE9' := (Ext.refl w8).drew.trans hE9
              refine hN _ w8 w9 (fun _ => Ext.refl _) hE9' ?_
              simp only [Act.put, List.setIfInBounds_toArray, List.set_cons_zero, List.set_cons_succ]
              repeat (first
                | (refine pure_n rfl ?_; intro N hN; go_big_quiet_op; go_big_quiet_on)
                | (refine read_n rfl ?_; intro N hN; go_big_quiet_op; go_big_quiet_on)
                | (refine pure_g rfl rfl rfl rfl ?_; intro N hN; go_big_quiet_op; go_big_quiet_on)
                | (refine read_g rfl rfl rfl rfl ?_; intro N hN; go_big_quiet_op; go_big_quiet_on)
                | (refine skip_g rfl rfl rfl rfl ?_; simp only [Act.put, List.setIfInBounds_toArray, List.set_cons_zero, List.set_cons_succ]))
              refine plan_nil ?_
              go_wp2
              have hle' : kk + (rest.length - (kk + 1)) = (rest.eraseIdx kk).length := by rw [List.length_eraseIdx_of_lt hkk]; omega
              have hls : (rest.eraseIdx kk).length < rest.length := by rw [List.length_eraseIdx_of_lt hkk]; omega
              have hle2 : (rest.eraseIdx kk).length + 1 = rest.length := by rw [List.length_eraseIdx_of_lt hkk]; omega
              rw [pcells_erase] at hS9
              rw [hle'] at hS9 hg9 hcap9 ⊢
              rw [← svals_append, ← List.length_append] at ho8
              have hz8 := hg8.size
              have hz9 : w8.heap.size ≤ w9.heap.size := hE9'.size
              refine ⟨⟨k + 1, r.1, o2 ++ r.2, rest.eraseIdx kk, p9, c9, by go_num, by omega, hcap9, rfl, HST, Lib.hid hS9, Lib.hid (fun g hg => ?_), Lib.hid (ho8.ext hE9'), Lib.hid ?_, Lib.hid ((hM7.grown hg8 (fun k hk => .inl (.inr (HO2.out.lt k hk).1))).ext hE9')⟩, by rw [lenV_slice, lenV_slice]; exact hls⟩
              · have hz7 := hm7.size
                rcases hg9 g hg with rfl | h9
                · obtain ⟨q1, q2, q3⟩ := HG.out g rfl
                  refine ⟨q1, by omega, fun e => ?_⟩
                  rcases hn8 g e with h8 | h8
                  · exact q3 h8
                  · omega
                · have h9 : w8.heap.size ≤ g ∧ g < w9.heap.size := h9
                  exact ⟨fun hf => by have := hl7 g hf; have := hM7.size; omega, h9.2, fun e => by have := (ho8.lt g e).2; omega⟩
              · exact (hE7.mod ((Mod.refl (fun j => (Value.slice pg2 o2.length cg2).ownBlock = some j) w7).grown hg8 (fun k hk => .inl hk)) (fun j hj hf => by have := (HO2.out.lt j hf).1; have := hl7 j hj; omega)).ext hE9'
          · have h0 : kk = 0 := by have := Hkk.out; rwa [if_neg hkm] at this
            subst h0
            simp only [Nat.zero_mul, Nat.zero_add] at o0 o1 o2' o3
            go_wp2_with (first
              | (go_at_call 26; with_reducible refine HIn.out.mono ?_; rintro e w7 ⟨v7, rfl, ho7, hm7, hE7⟩; have hown7 := hm7.own HO2.out (fun k hk hf => by have := (HO2.out.lt k hk).1; have := hl7 k hf; omega); have hM7 := HM.out.trans hm7 (fun j hj => .inl (.inl hj)); have hz7 := hM7.size; obtain ⟨p7, c7, rfl, _⟩ := ho7.form')
              | (at_builtin; go_loud (refine wpList_append_S rfl _ _ 44 rfl wa.heap.size 9 (.string ByteArray.empty) 1 16 Tryd.underlying44 (by kernel_rfl) rfl (by decide) hown7 rfl (svals r.2) rfl ho7.sl.src (oneCell_svals _) (by simp only [maxLen]; omega) (by omega) (by omega) ?_; intro v8 w8 ho8 hg8 hn8)))
            have hc8 : Hid (Sl w8 (.slice (some ⟨gs, 0, none⟩) rest.length ct) 4 rest.length (pcells rest)) := Lib.hid ((HS2.out.mod hm7 (fun g hg => (HG.out g hg).1)).mod ((Mod.refl (fun j => (Value.slice pg2 o2.length cg2).ownBlock = some j) w7).grown hg8 (fun k hk => .inl hk)) (fun g hg => (HG.out g hg).2.2))
            refine wp_region_plan [] (.step 0 .pure (.step 1 .pure (.step 2 .pure (.step 3 .pure (.step 4 .pure (.step 5 .pure (.step 6 .pure (.step 7 .pure (.step 8 (.eff false) (.step 9 .pure (.fin))))))))))) (by kernel_rfl) (by kernel_rfl) (Ext.refl w8) ?_
            simp only [pickOps, List.getD_cons_zero, List.getD_cons_succ]
            repeat (first
              | (refine pure_n rfl ?_; intro N hN; go_big_quiet_op; go_big_quiet_on)
              | (refine read_n rfl ?_; intro N hN; go_big_quiet_op; go_big_quiet_on)
              | (refine pure_g rfl rfl rfl rfl ?_; intro N hN; go_big_quiet_op; go_big_quiet_on)
              | (refine read_g rfl rfl rfl rfl ?_; intro N hN; go_big_quiet_op; go_big_quiet_on)
              | (refine skip_g rfl rfl rfl rfl ?_; simp only [Act.put, List.setIfInBounds_toArray, List.set_cons_zero, List.set_cons_succ]))
            refine eff_n rfl ?_
            intro N hN
            refine wp_append_cut _ _ 37 rfl 24 (.agg #[.int .i64 0, .int .i64 0, .string ⟨#[]⟩, .string ⟨#[]⟩]) 4 48 Tryd.underlying37 (by kernel_rfl) (g := gs) (n := 0) (xs := pcells (rest.take 0)) rfl ?_ ?_ (m := rest.length - (0 + 1)) (pcells (rest.drop (0 + 1))) rfl ?_ ?_ ?_ ?_
            · rw [pcells_length, List.length_take]; omega
            · intro j u hu
              have hj : j < 0 * 4 := by have := (List.getElem?_eq_some_iff.1 hu).1; rw [pcells_length, List.length_take] at this; omega
              rw [← pcells_take, List.getElem?_take_of_lt hj] at hu
              obtain ⟨_, _, _, h1, h2⟩ := hc8.out
              obtain ⟨g', h3, h4⟩ := h2 hlt
              cases h1; cases h3
              exact h4 j u hu
            · refine ⟨_, _, rfl, by rw [pcells_length, List.length_drop], fun hm => ?_⟩
              rw [if_neg (by omega)]
              refine ⟨_, rfl, fun j u hu => ?_⟩
              have hj : j < (rest.length - (0 + 1)) * 4 := by have := (List.getElem?_eq_some_iff.1 hu).1; rw [pcells_length, List.length_drop] at this; omega
              rw [← pcells_drop, List.getElem?_drop] at hu
              obtain ⟨_, _, _, h1, h2⟩ := hc8.out
              obtain ⟨g', h3, h4⟩ := h2 hlt
              cases h1; cases h3
              rw [Addr.add_mid]
              exact h4 _ u hu
            · simp only [maxLen]; omega
            · omega
            · intro p9 c9 w9 hS9 hE9 hg9 hcap9
              have hE9' := (Ext.refl w8).drew.trans hE9
              refine hN _ w8 w9 (fun _ => Ext.refl _) hE9' ?_
              simp only [Act.put, List.setIfInBounds_toArray, List.set_cons_zero, List.set_cons_succ]
              repeat (first
                | (refine pure_n rfl ?_; intro N hN; go_big_quiet_op; go_big_quiet_on)
                | (refine read_n rfl ?_; intro N hN; go_big_quiet_op; go_big_quiet_on)
                | (refine pure_g rfl rfl rfl rfl ?_; intro N hN; go_big_quiet_op; go_big_quiet_on)
                | (refine read_g rfl rfl rfl rfl ?_; intro N hN; go_big_quiet_op; go_big_quiet_on)
                | (refine skip_g rfl rfl rfl rfl ?_; simp only [Act.put, List.setIfInBounds_toArray, List.set_cons_zero, List.set_cons_succ]))
              refine plan_nil ?_
              go_wp2
              have hle' : 0 + (rest.length - (0 + 1)) = (rest.eraseIdx 0).length := by rw [List.length_eraseIdx_of_lt hkk]; omega
              have hls : (rest.eraseIdx 0).length < rest.length := by rw [List.length_eraseIdx_of_lt hkk]; omega
              have hle2 : (rest.eraseIdx 0).length + 1 = rest.length := by rw [List.length_eraseIdx_of_lt hkk]; omega
              rw [pcells_erase] at hS9
              rw [hle'] at hS9 hg9 hcap9 ⊢
              rw [← svals_append, ← List.length_append] at ho8
              have hz8 := hg8.size
              have hz9 : w8.heap.size ≤ w9.heap.size := hE9'.size
              refine ⟨⟨k + 1, r.1, o2 ++ r.2, rest.eraseIdx 0, p9, c9, by go_num, by omega, hcap9, rfl, HST, Lib.hid hS9, Lib.hid (fun g hg => ?_), Lib.hid (ho8.ext hE9'), Lib.hid ?_, Lib.hid ((hM7.grown hg8 (fun k hk => .inl (.inr (HO2.out.lt k hk).1))).ext hE9')⟩, by rw [lenV_slice, lenV_slice]; exact hls⟩
              · have hz7 := hm7.size
                rcases hg9 g hg with rfl | h9
                · obtain ⟨q1, q2, q3⟩ := HG.out g rfl
                  refine ⟨q1, by omega, fun e => ?_⟩
                  rcases hn8 g e with h8 | h8
                  · exact q3 h8
                  · omega
                · have h9 : w8.heap.size ≤ g ∧ g < w9.heap.size := h9
                  exact ⟨fun hf => by have := hl7 g hf; have := hM7.size; omega, h9.2, fun e => by have := (ho8.lt g e).2; omega⟩
              · exact (hE7.mod ((Mod.refl (fun j => (Value.slice pg2 o2.length cg2).ownBlock = some j) w7).grown hg8 (fun k hk => .inl hk)) (fun j hj hf => by have := (HO2.out.lt j hf).1; have := hl7 j hj; omega)).ext hE9'
        · have hrn : rest = [] := List.eq_nil_of_length_eq_zero (by omega)
          subst hrn
          obtain ⟨e1, e2, e3, e4, e5⟩ := HRa.out.same HR.out
          subst e1
          have hoL := HR.out.len
          have hol4' := out_le R
          have hd9 := HE.out
          have hb9 : EndAt wr (fp 1) (E 1) R := HEa.out.mod HM.out (fun j hj hf => by
            rcases hf with h | h
            · have := hlt1 j hj; have := hge2 j h; omega
            · have := HEa.out.lows j hj; omega)
          have hgt := HM.out.own HOa.out (fun j hj hf => by
            have h1 := HOa.out.lt j hj
            rcases hf with h | h
            · have := hb02 j h; have := hw36; omega
            · omega)
          have ht9 := HM.out.tab htr n7
          have hE9 : Ext w wr := hEr.modGe HM.out (fun j hj => by rcases hj with h | h; exact hlow2 j h; have := hEr.size; omega)
          have HStr := Lib.hid (strings_any o o hgt.sl HO2.out.sl (by omega) (by omega))
          have RB := Lib.hid (fun W (e : Ext wr W) => received_any (hb9.ext e))
          have RD := Lib.hid (fun W (e : Ext wr W) => received_any (hd9.ext e))
          have QB := Lib.hid (fun W (e : Ext wr W) => waiting_any (hb9.ext e))
          have QD := Lib.hid (fun W (e : Ext wr W) => waiting_any (hd9.ext e))
          have UB := Lib.hid (fun W (e : Ext wr W) => outS_any (hb9.ext e) (ht9.ext e))
          have UD := Lib.hid (fun W (e : Ext wr W) => outS_any (hd9.ext e) (ht9.ext e))
          rw [← e2] at RD
          rw [← e3, ← e4] at QD
          rw [← e5] at UD
          clear e2 e3 e4 e5 hS7 hkr hct hrl hlt hgt hb9 hd9
          go_wp2_with (go_at_call 28; with_reducible refine HStr.out.mono ?_; rintro e ws ⟨rfl, hEs⟩; rw [decide_eq_true rfl])
          have hX : Ext wr ws := hEs
          go_wp2_with (first
            | (go_at_call 35; (first | with_reducible refine (RB.out _ hX).mono ?_ | with_reducible refine (RD.out _ hX).mono ?_); rintro e w7 ⟨rfl, hE7⟩; have hX := hX.trans hE7; clear hE7)
            | (go_at_call 33; (first | with_reducible refine (QB.out _ hX).mono ?_ | with_reducible refine (QD.out _ hX).mono ?_); rintro e w7 ⟨rfl, hE7⟩; have hX := hX.trans hE7; clear hE7))
          go_wp2_with (go_at_call 22; with_reducible refine (UB.out _ hX).mono ?_; rintro e wc ⟨pc, cc, rfl, hSc, hEc, _⟩)
          have hXc := hX.trans hEc
          go_wp2_with (go_at_call 22; with_reducible refine (UD.out _ hXc).mono ?_; rintro e wd ⟨pd, cd, rfl, hSd, hEd, _⟩)
          have hXd := hXc.trans hEd
          have HSm := Lib.hid (same_any _ _ (hSc.ext hEd) hSd (by omega) (by omega))
          go_wp2_with (go_at_call 23; with_reducible refine HSm.out.mono ?_; rintro e we ⟨rfl, hEe⟩; rw [decide_eq_true rfl])
          all_goals first
            | (go_ret; exact ⟨by kernel_rfl, (hE9.trans hXd).trans hEe⟩)
            | trace_state
end Go.Proofs.YtjamakapkpkfeaaDoor
