/- What goes out: contract of the method Out. -/
import Derived.Test.YtjamakapkpkfeaaDoorCol
namespace Go.Proofs.YtjamakapkpkfeaaDoor
open Go.RowKit Go.Shelf Sha

/-- The packets of an end, sealed. -/
def Lk.out (L : Lk) : List Pkt := L.bare.map fun p => { p with sl := sealOf L.key p }
theorem bare_length (L : Lk) : L.bare.length ≤ 4 := by
  unfold Lk.bare; split <;> simp <;> omega
theorem bare_mem {L : Lk} (h : L.Ok) {p : Pkt} (hp : p ∈ L.bare) : 0 ≤ p.ser ∧ p.ser ≤ 1000000 ∧ 0 ≤ p.ack ∧ p.ack ≤ 1000000 ∧ p.body.size ≤ 60000 := by
  have h1 := h.got; have h2 := h.sent; have h3 := h.acked
  unfold Lk.bare at hp
  split at hp
  · rw [List.mem_singleton.1 hp]; refine ⟨by dsimp only; omega, by dsimp only; omega, by dsimp only; omega, by dsimp only; omega, ?_⟩; show 0 ≤ 60000; decide
  · obtain ⟨i, hi, rfl⟩ := List.mem_map.1 hp
    rw [List.mem_range] at hi
    refine ⟨by dsimp only; omega, by dsimp only; omega, by dsimp only; omega, by dsimp only; omega, ?_⟩
    have hlt : L.acked + i < L.sent.length := by omega
    rw [List.getElem?_eq_getElem hlt]
    have := h.body _ (List.getElem_mem hlt)
    show (L.sent[L.acked + i]).size ≤ 60000
    omega

theorem ownsSet {W : World} {base : Nat} {e : TypeId} {size g cap n : Nat} {xs : List Value} (h : W.ownsRow base e size (.slice (some ⟨g, 0, none⟩) n cap) n xs) (j : Nat) (_ : j < n * size) (u : Value) : (W.setCell ⟨g, j, none⟩ u).ownsRow base e size (.slice (some ⟨g, 0, none⟩) n cap) n (xs.set j u) := by
  refine ⟨by rw [List.length_set]; exact h.1, ?_⟩
  rcases h.2 with ⟨h0, _⟩ | ⟨g', cap', cur, h1, h2, h3, h4, h5, h6, h7⟩
  · cases h0
  · cases h1
    refine .inr ⟨g, cap, cur.setIfInBounds j u, rfl, h2, ?_, h4, h5, by simpa using h6, ?_⟩
    · unfold World.setCell
      rw [Array.getElem?_modify, if_pos rfl, h3]
      rfl
    · rw [Array.toList_setIfInBounds, List.take_set, h7]
theorem ownsFrozen {W : World} {base : Nat} {e : TypeId} {size g cap n : Nat} {xs : List Value} (h : W.ownsRow base e size (.slice (some ⟨g, 0, none⟩) n cap) n xs) (j : Nat) : W.frozen? ⟨g, j, none⟩ = false := by
  rcases h.2 with ⟨h0, _⟩ | ⟨g', cap', cur, h1, h2, h3, h4, h5, h6, h7⟩
  · cases h0
  · cases h1
    simp [World.frozen?, h3]
theorem pcells_append (l r : List Pkt) : pcells (l ++ r) = pcells l ++ pcells r := by unfold pcells; rw [List.flatMap_append]
/-- The cell with the number j of the k-th packet. -/
theorem pcells_at (l : List Pkt) (k j : Nat) (hk : k < l.length) (hj : j < 4) : (pcells l)[k * 4 + j]? = (l[k]).cells[j]? := by
  induction l generalizing k with
  | nil => cases hk
  | cons x l ih =>
    show (x.cells ++ pcells l)[k * 4 + j]? = _
    cases k with
    | zero => rw [List.getElem?_append_left (by show 0 * 4 + j < 4; omega)]; simp
    | succ k =>
      rw [List.getElem?_append_right (by show 4 ≤ (k + 1) * 4 + j; omega), show (k + 1) * 4 + j - x.cells.length = k * 4 + j by show (k + 1) * 4 + j - 4 = _; omega, ih k (by simpa using hk)]
      rfl
theorem pcells_set (l : List Pkt) (k : Nat) (hk : k < l.length) (s : ByteArray) : (pcells l).set (k * 4 + 3) (.string s) = pcells (l.set k { (l[k]) with sl := s }) := by
  induction l generalizing k with
  | nil => cases hk
  | cons x l ih =>
    cases k with
    | zero => rfl
    | succ k =>
      show (x.cells ++ pcells l).set ((k + 1) * 4 + 3) _ = x.cells ++ pcells _
      rw [List.set_append_right _ _ (by show 4 ≤ (k + 1) * 4 + 3; omega), show (k + 1) * 4 + 3 - x.cells.length = k * 4 + 3 by show (k + 1) * 4 + 3 - 4 = _; omega, ih k (by simpa using hk)]
      rfl

/-- The first k packets are sealed. -/
def Lk.mix (L : Lk) (k : Nat) : List Pkt := L.out.take k ++ L.bare.drop k
theorem out_len (L : Lk) : L.out.length = L.bare.length := by unfold Lk.out; rw [List.length_map]
theorem mix_length (L : Lk) (k : Nat) (hk : k ≤ L.bare.length) : (L.mix k).length = L.bare.length := by
  unfold Lk.mix; rw [List.length_append, List.length_take, List.length_drop, out_len]; omega
theorem mix_at (L : Lk) (k : Nat) (hk : k < L.bare.length) : (L.mix k)[k]'(by rw [mix_length L k (by omega)]; exact hk) = L.bare[k] := by
  unfold Lk.mix
  rw [List.getElem_append_right (by rw [List.length_take, out_len]; omega), List.getElem_drop]
  congr 1
  rw [List.length_take, out_len]; omega
theorem mix_succ (L : Lk) (k : Nat) (hk : k < L.bare.length) : (L.mix k).set k { L.bare[k] with sl := sealOf L.key L.bare[k] } = L.mix (k + 1) := by
  have ho : k < L.out.length := by rw [out_len]; exact hk
  unfold Lk.mix
  rw [List.set_append_right _ _ (by rw [List.length_take]; omega), List.length_take, Nat.min_eq_left (by omega), Nat.sub_self, List.drop_eq_getElem_cons hk, List.set_cons_zero, List.take_succ_eq_append_getElem ho, List.append_assoc]
  rw [show L.out[k] = { L.bare[k] with sl := sealOf L.key L.bare[k] } from by simp [Lk.out]]
  rfl

set_option maxRecDepth 100000 in
set_option maxHeartbeats 1000000 in
theorem out_any {w : World} {fp : Nat → Prop} {E : Nat} {L : Lk} (h : EndAt w fp E L) (ht : Tab w) :
    Calls Tryd.prog 22 #[.pointer (some ⟨E, 0, none⟩)] w fun e w' => ∃ v, e = .returned v ∧ w'.ownsRow w.heap.size 24 4 v L.out.length (pcells L.out) ∧ Ext w w' := by
  obtain ⟨v, M, h⟩ := h
  have hbl := bare_length L
  have hB0 := (Row.new w 25 [.pointer (some ⟨E, 0, none⟩)])
  have hEB := (Ext.refl w).alloc (.cells #[.pointer (some ⟨E, 0, none⟩)] 25)
  have hseq := packets_seq (EndAt'.mod h (Mod.of_ext (fp := fun _ => False) hEB) (fun _ _ h => h)) (hB0.cell 0 Nat.zero_lt_one) (fun k => k ≤ w.heap.size) (fun _ => False) (Nat.le_refl _) (Nat.le_of_lt (h.low E h.fpE)) (fun k hk => Nat.le_of_lt (h.low k (h.fpV k hk)))
  have HC := Lib.hid (collect_any _ _ _ _ (by omega) _ (enters_of Tryd.func56 (by kernel_rfl) rfl) hseq (fun k hk => by rw [World.size_alloc]; omega))
  clear hseq
  have hrE := h.row
  have hok := h.ok
  have hlE := h.low E h.fpE
  clear h
  go_enter Tryd.func22, Tryd.ntmps22
  go_wp2_with (first
    | (go_at_call 47; refine (packets_any _ _).mono ?_; rintro e w1 ⟨rfl, rfl⟩)
    | (go_at_call 46; go_loud (refine HC.out.mono ?_; rintro e w2 ⟨v2, rfl, ho2, hE2⟩; obtain ⟨p2, c2, rfl, _⟩ := (toOwn ho2).form')))
  rw [World.size_alloc] at ho2
  have hE3 := hEB.trans hE2
  have hrE3 := hrE.ext hE3
  clear HC hB0
  have hoM : w2.ownsRow (w.heap.size + 1) 24 4 (.slice p2 L.bare.length c2) L.bare.length (pcells (L.mix 0)) := by
    have : L.mix 0 = L.bare := by unfold Lk.mix; simp
    rw [this]; exact ho2
  have hn1 : 1 ≤ L.bare.length := by
    have := hok.acked
    unfold Lk.bare
    split
    · exact Nat.le_refl _
    · rw [List.length_map, List.length_range]; omega
  obtain ⟨g, cap, hv, hgb, hgl, _⟩ := (toOwn ho2).form hn1
  cases hv
  clear ho2
  go_loopw [12] (fun i wr => ∃ k : Nat, k ≤ L.bare.length ∧ i = .int .i64 k ∧ wr.ownsRow (w.heap.size + 1) 24 4 (.slice (some ⟨g, 0, none⟩) L.bare.length c2) L.bare.length (pcells (L.mix k)) ∧ Ext w wr) (fun i _ => L.bare.length - (intOf i).toNat)
  case atStart => exact ⟨0, Nat.zero_le _, rfl, hoM, hE3⟩
  case round =>
    clear hoM hE3 hrE3
    obtain ⟨k, hk, rfl, hoM, hE⟩ := hrel
    by_cases hlt : k < L.bare.length
    · have hcl := (toOwn hoM).cells rfl
      have hml := mix_length L k hk
      have hat : ∀ j, j < 4 → wr.cell? ⟨g, k * 4 + j, none⟩ = some ((L.bare[k]).cells.getD j undef) := by
        intro j hj
        refine hcl _ _ ?_
        rw [pcells_at _ k j (by omega) hj, mix_at L k hlt, List.getD_eq_getElem?_getD]
        rw [List.getElem?_eq_getElem (show j < (L.bare[k]).cells.length from hj)]
        rfl
      have hbm := bare_mem hok (List.getElem_mem hlt)
      have hset : (pcells (L.mix k)).set (k * 4 + 3) (.string (sealOf L.key L.bare[k])) = pcells (L.mix (k + 1)) := by
        rw [pcells_set _ k (by omega), mix_at L k hlt, mix_succ L k hlt]
      have hfr := ownsFrozen hoM (k * 4 + 3)
      generalize hp : L.bare[k] = pk at *
      have f0 : ∀ u, (wplus wr u).cell? ⟨g, k * 4, none⟩ = some (.int .i64 pk.ser) := fun u => (ext_wplus wr u).cell (hat 0 (by decide))
      have f1 : ∀ u, (wplus wr u).cell? ⟨g, k * 4 + 1, none⟩ = some (.int .i64 pk.ack) := fun u => (ext_wplus wr u).cell (hat 1 (by decide))
      have f2 : ∀ u, (wplus wr u).cell? ⟨g, k * 4 + 2, none⟩ = some (.string pk.body) := fun u => (ext_wplus wr u).cell (hat 2 (by decide))
      have f3 : ∀ u, (wplus wr u).cell? ⟨g, k * 4 + 3, none⟩ = some (.string pk.sl) := fun u => (ext_wplus wr u).cell (hat 3 (by decide))
      have fE : ∀ u, (wplus wr u).cell? ⟨E, 0, none⟩ = some (.string L.key) := fun u => ((hrE.ext hE).plus u).cell 0 (by show 0 < 6; decide)
      have c3 : wr.cell? ⟨g, k * 4 + 3, none⟩ = some (.string pk.sl) := hat 3 (by decide)
      clear hat hcl
      go_wp2
      refine wp_region_plan [13] (.step 0 .pure (.step 1 .pure (.step 2 .pure (.step 3 .pure (.step 4 .pure (.step 5 .read (.step 6 .pure (.step 7 .pure (.step 8 .pure (.step 9 .read (.step 10 (.eff false) (.step 11 .pure (.step 12 .pure (.step 13 (.eff true) (.fin))))))))))))))) (by kernel_rfl) (by kernel_rfl) (Ext.refl wr) ?_
      simp only [pickOps, List.getD_cons_zero, List.getD_cons_succ]
      repeat (first
        | (refine plan_pure (by rfl) ?_; intro N hN; go_big_quiet_op; go_big_quiet_on)
        | (refine plan_read (by rfl) ?_; intro N hN; go_big_quiet_op; go_big_quiet_on)
        | (refine plan_skip (by rfl) ?_; simp only [Act.put, List.setIfInBounds_toArray, List.set_cons_zero, List.set_cons_succ]))
      refine plan_eff (by rfl) ?_
      intro N hN
      go_big_op
      refine (seal_any L.key (by have := hok.key; omega) pk hbm.1 hbm.2.1 hbm.2.2.1 hbm.2.2.2.1 hbm.2.2.2.2 wr.drew (ht.ext hE.drew)).mono ?_
      rintro e w4 ⟨rfl, hE4⟩
      have hE5 : Ext wr w4 := (Ext.refl wr).drew.trans hE4
      refine hN _ wr w4 (fun _ => Ext.refl _) hE5 ?_
      repeat (first
        | (refine plan_pure (by rfl) ?_; intro N hN; go_big_quiet_op; go_big_quiet_on)
        | (refine plan_read (by rfl) ?_; intro N hN; go_big_quiet_op; go_big_quiet_on)
        | (refine plan_skip (by rfl) ?_; simp only [Act.put, List.setIfInBounds_toArray, List.set_cons_zero, List.set_cons_succ]))
      have c4 := hE5.cell c3
      have hlg : g < wr.heap.size := lt_of_cell c3
      have f4 : w4.frozen? ⟨g, k * 4 + 3, none⟩ = false := (hE5.frozen hlg).trans hfr
      refine plan_eff (by rfl) ?_
      intro N hN
      go_big_op
      refine hN _ _ _ (fun h => by cases h) (Ext.refl _) ?_
      refine plan_nil ?_
      go_wp2
      refine ⟨⟨k + 1, by omega, by go_num, ?_, (hE.trans hE5).setCell (by show w.heap.size ≤ g; omega) _⟩, by simp [intOf]; omega⟩
      rw [← hset]
      exact ownsSet (ownsKept hoM (grown_none hE5) (fun k hk e => by cases e)) (k * 4 + 3) (by omega) _
    · have hk' : k = L.bare.length := by omega
      subst hk'
      go_wp2
      go_ret
      refine ⟨_, rfl, ?_, hE⟩
      have : L.mix L.bare.length = L.out := by unfold Lk.mix; rw [List.take_of_length_le (by rw [out_len]; exact Nat.le_refl _), List.drop_of_length_le (Nat.le_refl _), List.append_nil]
      rw [this] at hoM
      rw [out_len]
      exact ownsMono hoM (by omega)
end Go.Proofs.YtjamakapkpkfeaaDoor
