/- Lists of strings and of packets are compared: contracts of Strings and Same. -/
import Derived.Test.YtjamakapkpkfeaaDoorSteps
namespace Go.Proofs.YtjamakapkpkfeaaDoor
open Go.RowKit Go.Shelf Sha

/-- v is a slice of n elements, whose cells are xs; it begins where its block begins. -/
def Sl (W : World) (v : Value) (size n : Nat) (xs : List Value) : Prop :=
  xs.length = n * size ∧ ∃ p c, v = .slice p n c ∧ (0 < n → ∃ g, p = some ⟨g, 0, none⟩ ∧ ∀ j u, xs[j]? = some u → W.cell? ⟨g, j, none⟩ = some u)
theorem Sl.ext {W W' : World} {v : Value} {size n : Nat} {xs : List Value} (h : Sl W v size n xs) (e : Ext W W') : Sl W' v size n xs := by
  obtain ⟨h1, p, c, rfl, h2⟩ := h
  refine ⟨h1, p, c, rfl, fun hn => ?_⟩
  obtain ⟨g, rfl, h3⟩ := h2 hn
  exact ⟨g, rfl, fun j u hu => e.cell (h3 j u hu)⟩
theorem Own.sl {W : World} {base : Nat} {e : TypeId} {size : Nat} {v : Value} {n : Nat} {xs : List Value} (h : Own W base e size v n xs) : Sl W v size n xs := by
  refine ⟨h.1, ?_⟩
  rcases Nat.eq_zero_or_pos n with h0 | h0
  · obtain ⟨p, cap, rfl, _⟩ := h.form'
    exact ⟨p, cap, rfl, fun hn => absurd hn (by omega)⟩
  · obtain ⟨g, cap, rfl, _⟩ := h.form h0
    exact ⟨_, cap, rfl, fun _ => ⟨g, rfl, h.cells rfl⟩⟩
theorem Sl.nil (W : World) (size : Nat) (p : Option Addr) (c : Nat) : Sl W (.slice p 0 c) size 0 [] := ⟨by simp, p, c, rfl, fun h => absurd h (by decide)⟩
theorem Row.sl {W : World} {b : Nat} {t : TypeId} {l : List Value} {size n : Nat} (h : Row W b t l) (hl : l.length = n * size) (c : Nat) : Sl W (.slice (some ⟨b, 0, none⟩) n c) size n l :=
  ⟨hl, _, c, rfl, fun _ => ⟨b, rfl, fun j u hu => by
    have hj : j < l.length := by rcases Nat.lt_or_ge j l.length with h | h; exact h; rw [List.getElem?_eq_none h] at hu; cases hu
    rw [h.cell j hj, List.getD_eq_getElem?_getD, hu]; rfl⟩⟩
def svals (l : List ByteArray) : List Value := l.map Value.string
theorem Sl.str {W : World} {g n c : Nat} {l : List ByteArray} (h : Sl W (.slice (some ⟨g, 0, none⟩) n c) 1 n (svals l)) (hn : 0 < n) (j : Nat) (hj : j < l.length) : W.cell? ⟨g, j, none⟩ = some (.string l[j]) := by
  obtain ⟨_, p, c', he, h2⟩ := h
  obtain ⟨g', rfl, h3⟩ := h2 hn
  cases he
  exact h3 j _ (by unfold svals; rw [List.getElem?_map, List.getElem?_eq_getElem hj]; rfl)

set_option maxRecDepth 100000 in
set_option maxHeartbeats 1000000 in
theorem strings_any (la lb : List ByteArray) {va vb : Value} {n m : Nat} {w : World} (hA : Sl w va 1 n (svals la)) (hB : Sl w vb 1 m (svals lb)) (hn : n ≤ 1000000) (hm : m ≤ 1000000) :
    Calls Tryd.prog 28 #[va, vb] w fun e w' => e = .returned (.bool (decide (la = lb))) ∧ Ext w w' := by
  have hla : la.length = n := by have := hA.1; unfold svals at this; rw [List.length_map] at this; omega
  have hlb : lb.length = m := by have := hB.1; unfold svals at this; rw [List.length_map] at this; omega
  obtain ⟨pa, ca, rfl, _⟩ := hA.2
  obtain ⟨pb, cb, rfl, _⟩ := hB.2
  go_enter Tryd.func28, Tryd.ntmps28
  by_cases hnm : n = m
  · subst hnm
    go_wp2
    go_loopw [5] (fun i wr => ∃ k : Nat, k ≤ n ∧ i = .int .i64 k ∧ Hid (la.take k = lb.take k) ∧ Ext w wr) (fun i _ => n - (intOf i).toNat)
    case atStart => exact ⟨0, Nat.zero_le _, rfl, Lib.hid rfl, Ext.refl _⟩
    case round =>
      obtain ⟨k, hk, rfl, hE, hX⟩ := hrel
      by_cases hlt : k < n
      · have hA1 := hA.ext hX
        have hB1 := hB.ext hX
        obtain ⟨_, _, _, h1, h2⟩ := hA
        obtain ⟨ga, h3, _⟩ := h2 (by omega)
        cases h1; subst h3
        obtain ⟨_, _, _, h1, h2⟩ := hB
        obtain ⟨gb, h3, _⟩ := h2 (by omega)
        cases h1; subst h3
        have ca' := hA1.str (by omega) k (by omega)
        have cb' := hB1.str (by omega) k (by omega)
        have hnext : la[k] = lb[k] → Hid (la.take (k + 1) = lb.take (k + 1)) := fun h => Lib.hid (by rw [List.take_succ_eq_append_getElem (by omega), List.take_succ_eq_append_getElem (by omega), hE.out, h])
        have hdone : la[k] ≠ lb[k] → Hid (decide (la = lb) = false) := fun h => Lib.hid (decide_eq_false (fun e => h (by subst e; rfl)))
        clear hA1 hB1 h2 hE
        generalize la[k] = xa at *
        generalize lb[k] = xb at *
        have fa : ∀ u, (wplus wr u).cell? ⟨ga, k, none⟩ = some (.string xa) := fun u => (ext_wplus wr u).cell ca'
        have fb : ∀ u, (wplus wr u).cell? ⟨gb, k, none⟩ = some (.string xb) := fun u => (ext_wplus wr u).cell cb'
        clear ca' cb'
        go_wp2
        refine wp_region_plan [] (.step 0 .pure (.step 1 .pure (.step 2 .pure (.step 3 .read (.step 4 .pure (.step 5 .pure (.step 6 .pure (.step 7 .read (.step 8 .pure (.fin)))))))))) (by kernel_rfl) (by kernel_rfl) (Ext.refl wr) ?_
        simp only [pickOps, List.getD_cons_zero, List.getD_cons_succ]
        repeat (first
          | (refine plan_pure (by rfl) ?_; intro N hN; go_big_quiet_op; go_big_quiet_on)
          | (refine plan_read (by rfl) ?_; intro N hN; go_big_quiet_op; go_big_quiet_on)
          | (refine plan_skip (by rfl) ?_; simp only [Act.put, List.setIfInBounds_toArray, List.set_cons_zero, List.set_cons_succ]))
        refine plan_nil ?_
        by_cases hx : xa = xb
        · have hh := hnext hx
          subst hx
          simp only [beq_self_eq_true, Bool.not_true]
          go_wp2
          refine ⟨⟨k + 1, by omega, by go_num, hh, hX.drew⟩, by simp [intOf]; omega⟩
        · have hh := hdone hx
          have hx2 : (xa.toList == xb.toList) = false := by rw [str_beq]; exact decide_eq_false hx
          clear hx
          simp only [hx2, Bool.not_false]
          go_wp2
          go_ret
          exact ⟨by rw [hh.out]; rfl, hX.drew⟩
      · have hk' : k = n := by omega
        subst hk'
        have he : Hid (decide (la = lb) = true) := Lib.hid (decide_eq_true (by have := hE.out; rw [List.take_of_length_le (by omega), List.take_of_length_le (by omega)] at this; exact this))
        clear hE
        go_wp2
        go_ret
        exact ⟨by rw [he.out]; rfl, hX⟩
  · have hd : Hid (decide (la = lb) = false) := Lib.hid (decide_eq_false (fun e => hnm (by rw [← hla, ← hlb, e])))
    go_wp2
    go_ret
    exact ⟨by rw [hd.out]; rfl, Ext.refl _⟩

theorem Sl.pkt {W : World} {g n c : Nat} {l : List Pkt} (h : Sl W (.slice (some ⟨g, 0, none⟩) n c) 4 n (pcells l)) (hn : 0 < n) (k : Nat) (hk : k < l.length) (j : Nat) (hj : j < 4) : W.cell? ⟨g, k * 4 + j, none⟩ = some ((l[k]).cells.getD j undef) := by
  obtain ⟨_, p, c', he, h2⟩ := h
  obtain ⟨g', rfl, h3⟩ := h2 hn
  cases he
  exact h3 _ _ (by rw [pcells_at l k j hk hj, List.getD_eq_getElem?_getD, List.getElem?_eq_getElem (show j < (l[k]).cells.length from hj)]; rfl)
instance (a b : Pkt) : Decidable (a = b) :=
  decidable_of_iff (a.ser = b.ser ∧ a.ack = b.ack ∧ a.body = b.body ∧ a.sl = b.sl)
    ⟨fun h => by cases a; cases b; obtain ⟨h1, h2, h3, h4⟩ := h; simp only at h1 h2 h3 h4; subst h1 h2 h3 h4; rfl, fun h => by subst h; exact ⟨rfl, rfl, rfl, rfl⟩⟩

set_option maxRecDepth 100000 in
set_option maxHeartbeats 2000000 in
theorem same_any (la lb : List Pkt) {va vb : Value} {n m : Nat} {w : World} (hA : Sl w va 4 n (pcells la)) (hB : Sl w vb 4 m (pcells lb)) (hn : n ≤ 1000000) (hm : m ≤ 1000000) :
    Calls Tryd.prog 23 #[va, vb] w fun e w' => e = .returned (.bool (decide (la = lb))) ∧ Ext w w' := by
  have hla : la.length = n := by have := hA.1; rw [pcells_length] at this; omega
  have hlb : lb.length = m := by have := hB.1; rw [pcells_length] at this; omega
  obtain ⟨pa, ca, rfl, _⟩ := hA.2
  obtain ⟨pb, cb, rfl, _⟩ := hB.2
  go_enter Tryd.func23, Tryd.ntmps23
  by_cases hnm : n = m
  · subst hnm
    go_wp2
    go_loopw [5] (fun i wr => ∃ k : Nat, k ≤ n ∧ i = .int .i64 k ∧ Hid (la.take k = lb.take k) ∧ Ext w wr) (fun i _ => n - (intOf i).toNat)
    case atStart => exact ⟨0, Nat.zero_le _, rfl, Lib.hid rfl, Ext.refl _⟩
    case round =>
      obtain ⟨k, hk, rfl, hE, hX⟩ := hrel
      by_cases hlt : k < n
      · have hA1 := hA.ext hX
        have hB1 := hB.ext hX
        obtain ⟨_, _, _, h1, h2⟩ := hA
        obtain ⟨ga, h3, _⟩ := h2 (by omega)
        cases h1; subst h3
        obtain ⟨_, _, _, h1, h2⟩ := hB
        obtain ⟨gb, h3, _⟩ := h2 (by omega)
        cases h1; subst h3
        have ca' := hA1.pkt (by omega) k (by omega)
        have cb' := hB1.pkt (by omega) k (by omega)
        have hnext : la[k] = lb[k] → Hid (la.take (k + 1) = lb.take (k + 1)) := fun h => Lib.hid (by rw [List.take_succ_eq_append_getElem (by omega), List.take_succ_eq_append_getElem (by omega), hE.out, h])
        have hdone : la[k] ≠ lb[k] → Hid (decide (la = lb) = false) := fun h => Lib.hid (decide_eq_false (fun e => h (by subst e; rfl)))
        clear hA1 hB1 h2 hE
        generalize la[k] = xa at *
        generalize lb[k] = xb at *
        obtain ⟨sa, aa, ba, za⟩ := xa
        obtain ⟨sb, ab, bb, zb⟩ := xb
        have a0 : ∀ u, (wplus wr u).cell? ⟨ga, k * 4, none⟩ = some (.int .i64 sa) := fun u => (ext_wplus wr u).cell (ca' 0 (by decide))
        have a1 : ∀ u, (wplus wr u).cell? ⟨ga, k * 4 + 1, none⟩ = some (.int .i64 aa) := fun u => (ext_wplus wr u).cell (ca' 1 (by decide))
        have a2 : ∀ u, (wplus wr u).cell? ⟨ga, k * 4 + 2, none⟩ = some (.string ba) := fun u => (ext_wplus wr u).cell (ca' 2 (by decide))
        have a3 : ∀ u, (wplus wr u).cell? ⟨ga, k * 4 + 3, none⟩ = some (.string za) := fun u => (ext_wplus wr u).cell (ca' 3 (by decide))
        have b0 : ∀ u, (wplus wr u).cell? ⟨gb, k * 4, none⟩ = some (.int .i64 sb) := fun u => (ext_wplus wr u).cell (cb' 0 (by decide))
        have b1 : ∀ u, (wplus wr u).cell? ⟨gb, k * 4 + 1, none⟩ = some (.int .i64 ab) := fun u => (ext_wplus wr u).cell (cb' 1 (by decide))
        have b2 : ∀ u, (wplus wr u).cell? ⟨gb, k * 4 + 2, none⟩ = some (.string bb) := fun u => (ext_wplus wr u).cell (cb' 2 (by decide))
        have b3 : ∀ u, (wplus wr u).cell? ⟨gb, k * 4 + 3, none⟩ = some (.string zb) := fun u => (ext_wplus wr u).cell (cb' 3 (by decide))
        clear ca' cb'
        go_wp2
        refine wp_region_plan [] (.step 0 .pure (.step 1 .pure (.step 2 .pure (.step 3 .read (.step 4 .pure (.step 5 .pure (.step 6 .pure (.step 7 .read (.step 8 .pure (.fin)))))))))) (by kernel_rfl) (by kernel_rfl) (Ext.refl wr) ?_
        simp only [pickOps, List.getD_cons_zero, List.getD_cons_succ]
        repeat (first
          | (refine plan_pure (by rfl) ?_; intro N hN; go_big_quiet_op; go_big_quiet_on)
          | (refine plan_read (by rfl) ?_; intro N hN; go_big_quiet_op; go_big_quiet_on)
          | (refine plan_skip (by rfl) ?_; simp only [Act.put, List.setIfInBounds_toArray, List.set_cons_zero, List.set_cons_succ]))
        by_cases hx : sa = sb ∧ aa = ab ∧ ba = bb ∧ za = zb
        · obtain ⟨rfl, rfl, rfl, rfl⟩ := hx
          have hh := hnext rfl
          repeat (first
            | (refine plan_pure (by rfl) ?_; intro N hN; go_big_quiet_op; go_big_quiet_on)
            | (refine plan_read (by rfl) ?_; intro N hN; go_big_quiet_op; go_big_quiet_on)
            | (refine plan_skip (by rfl) ?_; simp only [Act.put, List.setIfInBounds_toArray, List.set_cons_zero, List.set_cons_succ]))
          refine plan_nil ?_
          go_wp2
          refine ⟨⟨k + 1, by omega, by go_num, hh, hX.drew⟩, by simp [intOf]; omega⟩
        · have hh := hdone (fun e => hx (by cases e; exact ⟨rfl, rfl, rfl, rfl⟩))
          refine plan_pure (by rfl) ?_
          intro N hN
          go_big_quiet_op
          refine ⟨.bool true, fun w => ?_, hN _ ?_⟩
          · rw [← str_eq (a := ba), ← str_eq (a := za)] at hx
            by_cases h1 : sa = sb
            · by_cases h2 : aa = ab
              · by_cases h3 : ba.toList = bb.toList
                · by_cases h4 : za.toList = zb.toList
                  · exact absurd ⟨h1, h2, h3, h4⟩ hx
                  · simp only [h1, h2, h3, h4, if_true, if_false]; exact ⟨trivial, trivial⟩
                · simp only [h1, h2, h3, if_true, if_false]; exact ⟨trivial, trivial⟩
              · simp only [h1, h2, if_true, if_false]; exact ⟨trivial, trivial⟩
            · simp only [h1, if_false]; exact ⟨trivial, trivial⟩
          · refine plan_nil ?_
            clear hx
            go_wp2
            go_ret
            exact ⟨by rw [hh.out]; rfl, hX.drew⟩
      · have hk' : k = n := by omega
        subst hk'
        have he : Hid (decide (la = lb) = true) := Lib.hid (decide_eq_true (by have := hE.out; rw [List.take_of_length_le (by omega), List.take_of_length_le (by omega)] at this; exact this))
        clear hE
        go_wp2
        go_ret
        exact ⟨by rw [he.out]; rfl, hX⟩
  · have hd : Hid (decide (la = lb) = false) := Lib.hid (decide_eq_false (fun e => hnm (by rw [← hla, ← hlb, e])))
    go_wp2
    go_ret
    exact ⟨by rw [hd.out]; rfl, Ext.refl _⟩
end Go.Proofs.YtjamakapkpkfeaaDoor
