/- The strings that are hashed for a seal; whether two lists of strings collide: contracts of Hashed and Collided. -/
import Derived.Test.YtjamakapkpkfeaaDoorCmp
namespace Go.Proofs.YtjamakapkpkfeaaDoor
open Go.RowKit Go.Shelf Sha

namespace Sha
def hashes (key : ByteArray) (p : Pkt) : List ByteArray := [(⟨#[0]⟩ : ByteArray) ++ content p, (⟨#[1]⟩ : ByteArray) ++ key ++ leaf (content p)]
def collides (a b : List ByteArray) : Bool := a.any fun x => b.any fun y => decide (x ≠ y) && decide (sha x = sha y)
end Sha

set_option maxRecDepth 100000 in
set_option maxHeartbeats 1000000 in
theorem hashed_any (key : ByteArray) (hk : key.size ≤ 1000) (p : Pkt) (h1 : 0 ≤ p.ser) (h2 : p.ser ≤ 1000000) (h3 : 0 ≤ p.ack) (h4 : p.ack ≤ 1000000) (h5 : p.body.size ≤ 60000) (w : World) :
    Calls Tryd.prog 37 #[.string key, p.val] w fun e w' => ∃ v, e = .returned v ∧ Sl w' v 1 2 (svals (hashes key p)) ∧ Ext w w' := by
  have HC := Lib.hid (content_any p h1 h2 h3 h4 h5)
  have hcs := content_size p
  have Hh : Hid (hashes key p = [(⟨#[0]⟩ : ByteArray) ++ content p, (⟨#[1]⟩ : ByteArray) ++ key ++ leaf (content p)]) := Lib.hid rfl
  have HL := Lib.hid (leaf2_any (content p) (by omega))
  generalize content p = c at *
  generalize hashes key p = hs at *
  have hls : (leaf c).size = 32 := by unfold leaf; exact sha_size _
  generalize leaf c = lc at *
  go_enter Tryd.func37, Tryd.ntmps37
  unfold Pkt.val Pkt.cells at *
  go_wp2_with (first
    | (go_at_call 52; refine (HC.out _).mono ?_; rintro e w1 ⟨rfl, hE1⟩)
    | (go_at_call 43; refine (HL.out _).mono ?_; rintro e w2 ⟨rfl, hE2⟩))
  go_ret
  refine ⟨.slice (some ⟨w2.heap.size, 0, none⟩) 2 2, rfl, ?_, (((Ext.refl w).alloc _).trans hE1).trans hE2 |>.alloc _⟩
  rw [Hh.out]
  exact (Row.new w2 9 (svals [(⟨#[0]⟩ : ByteArray) ++ c, (⟨#[1]⟩ : ByteArray) ++ key ++ lc])).sl rfl 2

theorem any_take_succ {α : Type} (l : List α) (f : α → Bool) (k : Nat) (hk : k < l.length) : (l.take (k + 1)).any f = ((l.take k).any f || f l[k]) := by
  rw [List.take_succ_eq_append_getElem hk, List.any_append, List.any_cons, List.any_nil, Bool.or_false]
theorem any_of_get {α : Type} {l : List α} {f : α → Bool} {k : Nat} (hk : k < l.length) (h : f l[k] = true) : l.any f = true := List.any_eq_true.2 ⟨_, List.getElem_mem hk, h⟩

set_option maxRecDepth 100000 in
set_option maxHeartbeats 2000000 in
theorem collided_any (la lb : List ByteArray) {va vb : Value} {n m : Nat} {w : World} (hA : Sl w va 1 n (svals la)) (hB : Sl w vb 1 m (svals lb)) (hn : n ≤ 1000) (hm : m ≤ 1000) (hsa : ∀ x ∈ la, x.size ≤ 1000000) (hsb : ∀ x ∈ lb, x.size ≤ 1000000) :
    Calls Tryd.prog 38 #[va, vb] w fun e w' => e = .returned (.bool (collides la lb)) ∧ Ext w w' := by
  have hla : la.length = n := by have := hA.1; unfold svals at this; rw [List.length_map] at this; omega
  have hlb : lb.length = m := by have := hB.1; unfold svals at this; rw [List.length_map] at this; omega
  have HA := Lib.hid hA
  have HB := Lib.hid hB
  have HSA := Lib.hid hsa
  have HSB := Lib.hid hsb
  obtain ⟨_, pa, ca, rfl, _⟩ := hA
  obtain ⟨_, pb, cb, rfl, _⟩ := hB
  clear hsa hsb
  go_enter Tryd.func38, Tryd.ntmps38
  go_wp2
  go_loopw [5, 6] (fun v i wr => ∃ k : Nat, k ≤ m ∧ i = .int .i64 k ∧ Hid (Own wr w.heap.size 9 1 v k (svals ((lb.map sha).take k))) ∧ Ext w wr) (fun _ i _ => m - (intOf i).toNat)
  case atStart => exact ⟨0, Nat.zero_le _, rfl, Lib.hid (Own.nil _ _ _ _), Ext.refl _⟩
  case round =>
    obtain ⟨k, hk, rfl, ho, hE⟩ := hrel
    obtain ⟨pv, cv, rfl, _⟩ := ho.out.form'
    by_cases hlt : k < m
    · obtain ⟨_, _, _, h1, h2⟩ := HB.out
      obtain ⟨gb, h3, _⟩ := h2 (by omega)
      cases h1; subst h3
      have cb' := (HB.out.ext hE).str (by omega) k (by omega)
      have hbs := HSB.out lb[k] (List.getElem_mem _)
      have htk : svals ((lb.map sha).take (k + 1)) = svals ((lb.map sha).take k) ++ [.string (sha lb[k])] := by
        rw [List.take_succ_eq_append_getElem (by rw [List.length_map]; omega), List.getElem_map]; unfold svals; rw [List.map_append]; rfl
      have HT := Lib.hid htk
      clear htk h2
      generalize lb[k] = xb at *
      go_wp2_with (first
        | (go_at_call 44; refine (sum2_any _ (by omega) _).mono ?_; rintro e w2 ⟨rfl, hE2⟩; have ho2 := ho.out.ext hE2)
        | (at_builtin; go_loud (refine wpList_append_G rfl _ _ 44 rfl _ 9 (.string ByteArray.empty) 1 16 Tryd.underlying44 (by kernel_rfl) rfl (by decide) (ho2.alloc _) rfl [_] rfl rfl (new_cells _ _ _) (by simp [Value.oneCell']) (by skip; simp only [maxLen]; omega) (by skip; omega) (by have := (hE.trans hE2).size; simp at this ⊢ <;> omega) ?_; intro v3 w3 ho3 hg3)))
      refine ⟨⟨k + 1, by omega, by go_num, Lib.hid (by rw [HT.out]; exact ho3), ho2.grow ((hE.trans hE2).alloc _) hg3 (Nat.le_refl _)⟩, by simp [intOf]; omega⟩
    · have hk' : k = m := by omega
      subst hk'
      have Hd : Hid (Own wr w.heap.size 9 1 (.slice pv k cv) k (svals (lb.map sha))) := Lib.hid (by have := ho.out; rw [List.take_of_length_le (by rw [List.length_map]; omega)] at this; exact this)
      clear ho
      go_wp2
      go_loopw [7] (fun i wr => ∃ j : Nat, j ≤ n ∧ i = .int .i64 j ∧ Hid ((la.take j).any (fun x => lb.any fun y => decide (x ≠ y) && decide (sha x = sha y)) = false) ∧ Hid (Own wr w.heap.size 9 1 (.slice pv k cv) k (svals (lb.map sha))) ∧ Ext w wr) (fun i _ => n - (intOf i).toNat)
      case atStart => exact ⟨0, Nat.zero_le _, rfl, Lib.hid rfl, Hd, hE⟩
      case round =>
        rename_i wr0 _ _
        clear Hd hE
        obtain ⟨j, hj, rfl, hno, Hd, hE⟩ := hrel
        by_cases hlt : j < n
        · obtain ⟨_, _, _, h1, h2⟩ := HA.out
          obtain ⟨ga, h3, _⟩ := h2 (by omega)
          cases h1; subst h3
          clear h2
          have ca' := (HA.out.ext hE).str (by omega) j (by omega)
          have hbs := HSA.out la[j] (List.getElem_mem _)
          obtain ⟨xa, hxa⟩ : ∃ x, la[j] = x := ⟨_, rfl⟩
          rw [hxa] at ca' hbs
          have Hcol : Hid (∀ i (hi : i < lb.length), (decide (xa ≠ lb[i]) && decide (sha xa = sha lb[i])) = true → collides la lb = true) := Lib.hid (fun i hi h => any_of_get (k := j) (by omega) (any_of_get (k := i) hi (by rw [hxa]; exact h)))
          have Hst : Hid (lb.any (fun y => decide (xa ≠ y) && decide (sha xa = sha y)) = false → (la.take (j + 1)).any (fun x => lb.any fun y => decide (x ≠ y) && decide (sha x = sha y)) = false) := Lib.hid (fun h => by rw [any_take_succ _ _ _ (by omega), hno.out, hxa, h]; rfl)
          clear hno hxa
          go_wp2_with (go_at_call 44; refine (sum2_any _ (by omega) _).mono ?_; rintro e w2 ⟨rfl, hE2⟩)
          go_loopw [9] (fun i wr => ∃ l : Nat, l ≤ k ∧ i = .int .i64 l ∧ Hid ((lb.take l).any (fun y => decide (xa ≠ y) && decide (sha xa = sha y)) = false) ∧ Ext w2 wr) (fun i _ => k - (intOf i).toNat)
          case atStart => exact ⟨0, Nat.zero_le _, rfl, Lib.hid rfl, Ext.refl _⟩
          case round =>
            obtain ⟨l, hl, rfl, hno, hX⟩ := hrel
            by_cases hlt2 : l < k
            · obtain ⟨_, _, _, h1, h2⟩ := HB.out
              obtain ⟨gb, h3, _⟩ := h2 (by omega)
              cases h1; subst h3
              clear h2
              obtain ⟨gd, cd, h1, _⟩ := Hd.out.form (by omega)
              cases h1
              have cb' := ((HB.out.ext (hE.trans hE2)).ext hX).str (by omega) l (by omega)
              have cd' := ((Hd.out.ext hE2).ext hX).cells rfl l (.string (sha lb[l])) (by unfold svals; rw [List.getElem?_map, List.getElem?_map, List.getElem?_eq_getElem (by omega)]; rfl)
              have Hhit : Hid ((decide (xa ≠ lb[l]) && decide (sha xa = sha lb[l])) = true → collides la lb = true) := Lib.hid (Hcol.out l (by omega))
              have Hmis : Hid ((decide (xa ≠ lb[l]) && decide (sha xa = sha lb[l])) = false → (lb.take (l + 1)).any (fun y => decide (xa ≠ y) && decide (sha xa = sha y)) = false) := Lib.hid (fun h => by rw [any_take_succ _ _ _ (by omega), hno.out, h]; rfl)
              clear hno
              generalize lb[l] = xb at *
              have f1 : ∀ u, (wplus wr u).cell? ⟨ga, j, none⟩ = some (.string xa) := fun u => (ext_wplus wr u).cell (hX.cell (hE2.cell ca'))
              have f2 : ∀ u, (wplus wr u).cell? ⟨gb, l, none⟩ = some (.string xb) := fun u => (ext_wplus wr u).cell cb'
              have f3 : ∀ u, (wplus wr u).cell? ⟨gd, l, none⟩ = some (.string (sha xb)) := fun u => (ext_wplus wr u).cell cd'
              clear ca' cb' cd'
              by_cases hx : xa = xb
              · subst hx
                have hm := Lib.hid (Hmis.out (by simp))
                clear Hhit Hmis
                go_wp2
                refine wp_region_plan [] (.step 0 .pure (.step 1 .pure (.step 2 .pure (.step 3 .read (.step 4 .pure (.step 5 .pure (.step 6 .pure (.step 7 .read (.step 8 .pure (.step 9 .pure (.step 10 .pure (.step 11 .pure (.step 12 .pure (.step 13 .pure (.step 14 .read (.step 15 .pure (.step 16 .pure (.fin)))))))))))))))))) (by kernel_rfl) (by kernel_rfl) (Ext.refl wr) ?_
                simp only [pickOps, List.getD_cons_zero, List.getD_cons_succ]
                repeat (first
                  | (refine pure_n rfl ?_; intro N hN; go_big_quiet_op; go_big_quiet_on)
                  | (refine read_n rfl ?_; intro N hN; go_big_quiet_op; go_big_quiet_on)
                  | (refine pure_g rfl rfl rfl rfl ?_; intro N hN; go_big_quiet_op; go_big_quiet_on)
                  | (refine read_g rfl rfl rfl rfl ?_; intro N hN; go_big_quiet_op; go_big_quiet_on)
                  | (refine skip_g rfl rfl rfl rfl ?_; simp only [Act.put, List.setIfInBounds_toArray, List.set_cons_zero, List.set_cons_succ]))
                refine plan_nil ?_
                go_wp2
                refine ⟨⟨l + 1, by omega, by go_num, hm, hX.drew⟩, by simp [intOf]; omega⟩
              · have hx2 : (xa.toList == xb.toList) = false := by rw [str_beq]; exact decide_eq_false hx
                by_cases hs : sha xa = sha xb
                · have hm := Lib.hid (Hhit.out (by simp [hx, hs]))
                  clear hx Hhit Hmis
                  have hs2 : ((sha xa).toList == (sha xb).toList) = true := by rw [str_beq]; exact decide_eq_true hs
                  clear hs
                  go_wp2
                  refine wp_region_plan [] (.step 0 .pure (.step 1 .pure (.step 2 .pure (.step 3 .read (.step 4 .pure (.step 5 .pure (.step 6 .pure (.step 7 .read (.step 8 .pure (.step 9 .pure (.step 10 .pure (.step 11 .pure (.step 12 .pure (.step 13 .pure (.step 14 .read (.step 15 .pure (.step 16 .pure (.fin)))))))))))))))))) (by kernel_rfl) (by kernel_rfl) (Ext.refl wr) ?_
                  simp only [pickOps, List.getD_cons_zero, List.getD_cons_succ]
                  repeat (first
                    | (refine pure_n rfl ?_; intro N hN; go_big_quiet_op; go_big_quiet_on)
                    | (refine read_n rfl ?_; intro N hN; go_big_quiet_op; go_big_quiet_on)
                    | (refine pure_g rfl rfl rfl rfl ?_; intro N hN; go_big_quiet_op; go_big_quiet_on)
                    | (refine read_g rfl rfl rfl rfl ?_; intro N hN; go_big_quiet_op; go_big_quiet_on)
                    | (refine skip_g rfl rfl rfl rfl ?_; simp only [Act.put, List.setIfInBounds_toArray, List.set_cons_zero, List.set_cons_succ]))
                  refine plan_nil ?_
                  go_wp2
                  go_ret
                  exact ⟨by rw [hm.out]; rfl, (hE.trans hE2).trans hX.drew⟩
                · have hm := Lib.hid (Hmis.out (by simp [hs]))
                  clear hx Hhit Hmis
                  have hs2 : ((sha xa).toList == (sha xb).toList) = false := by rw [str_beq]; exact decide_eq_false hs
                  clear hs
                  go_wp2
                  refine wp_region_plan [] (.step 0 .pure (.step 1 .pure (.step 2 .pure (.step 3 .read (.step 4 .pure (.step 5 .pure (.step 6 .pure (.step 7 .read (.step 8 .pure (.step 9 .pure (.step 10 .pure (.step 11 .pure (.step 12 .pure (.step 13 .pure (.step 14 .read (.step 15 .pure (.step 16 .pure (.fin)))))))))))))))))) (by kernel_rfl) (by kernel_rfl) (Ext.refl wr) ?_
                  simp only [pickOps, List.getD_cons_zero, List.getD_cons_succ]
                  repeat (first
                    | (refine pure_n rfl ?_; intro N hN; go_big_quiet_op; go_big_quiet_on)
                    | (refine read_n rfl ?_; intro N hN; go_big_quiet_op; go_big_quiet_on)
                    | (refine pure_g rfl rfl rfl rfl ?_; intro N hN; go_big_quiet_op; go_big_quiet_on)
                    | (refine read_g rfl rfl rfl rfl ?_; intro N hN; go_big_quiet_op; go_big_quiet_on)
                    | (refine skip_g rfl rfl rfl rfl ?_; simp only [Act.put, List.setIfInBounds_toArray, List.set_cons_zero, List.set_cons_succ]))
                  refine plan_nil ?_
                  go_wp2
                  refine ⟨⟨l + 1, by omega, by go_num, hm, hX.drew⟩, by simp [intOf]; omega⟩
            · have hl' : l = k := by omega
              subst hl'
              have hm := Lib.hid (Hst.out (by have := hno.out; rw [List.take_of_length_le (by omega)] at this; exact this))
              have hd2 := Lib.hid ((Hd.out.ext hE2).ext hX)
              clear hno
              go_wp2
              refine ⟨⟨j + 1, by omega, by go_num, hm, hd2, (hE.trans hE2).trans hX⟩, by simp [intOf]; omega⟩
        · have hj' : j = n := by omega
          subst hj'
          have hdn : Hid (collides la lb = false) := Lib.hid (by have := hno.out; rw [List.take_of_length_le (by omega)] at this; exact this)
          clear hno
          go_wp2
          go_ret
          exact ⟨by rw [hdn.out]; rfl, hE⟩
end Go.Proofs.YtjamakapkpkfeaaDoor
