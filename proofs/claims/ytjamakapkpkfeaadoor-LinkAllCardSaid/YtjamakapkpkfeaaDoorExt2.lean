/- The reference's text of the digest: its padding, its constants. -/
import Derived.Test.YtjamakapkpkfeaaDoorMark
namespace Go.Proofs.YtjamakapkpkfeaaDoor
open Go.RowKit Go.Shelf Sha

theorem nats_take (s : ByteArray) (k : Nat) (hk : k < s.size) : (nats s).take (k + 1) = (nats s).take k ++ [at_ (nats s) k] := by
  have h : k < (nats s).length := by rw [nats_length]; exact hk
  rw [List.take_succ_eq_append_getElem h]
  simp [at_, List.getD_eq_getElem?_getD, h]

set_option maxRecDepth 100000 in
set_option maxHeartbeats 1000000 in
theorem extended_any (s : ByteArray) (hs : s.size ≤ 1099511627776) (w : World) :
    Calls Tryd.prog 53 #[.string s] w fun e w' => ∃ v, e = .returned v ∧ Own w' w.heap.size 5 1 v (padded (nats s)).length (vals .u8 (padded (nats s))) ∧ Ext w w' := by
  have HS := Lib.hid hs
  go_enter Tryd.func53, Tryd.ntmps53
  go_wp2
  go_loopw [3, 4] (fun v i wr => ∃ k : Nat, k ≤ s.size ∧ i = .int .i64 k ∧ Own wr w.heap.size 5 1 v k (vals .u8 ((nats s).take k)) ∧ Ext w wr) (fun _ i _ => s.size - (intOf i).toNat)
  case atStart => exact ⟨0, Nat.zero_le _, rfl, Own.nil _ _ _ _, Ext.refl _⟩
  case round =>
    obtain ⟨k, hk, rfl, ho, hE⟩ := hrel
    obtain ⟨p, cap, rfl, hcap⟩ := ho.form'
    by_cases hlt : k < s.size
    · go_wp2_with (at_builtin; go_loud (refine wpList_append_G rfl _ _ 70 rfl _ 5 (.int .u8 0) 1 1 Tryd.underlying70 (by kernel_rfl) rfl (by decide) (ho.alloc _) rfl [_] rfl rfl (new_cells _ _ _) (by simp [Value.oneCell']) (by have := HS.out; simp only [maxLen]; omega) (by have := HS.out; omega) (by have := hE.size; simp at this ⊢ <;> omega) ?_; intro v2 w2 ho2 hg2))
      refine ⟨⟨k + 1, by omega, by go_num, ?_, ho.grow (hE.alloc _) hg2 (Nat.le_refl _)⟩, by simp [intOf]; omega⟩
      rw [nats_take _ _ hlt, vals_append]
      have : at_ (nats s) k = (s[k]'hlt).toNat := by
        unfold at_ nats
        rw [List.getD_eq_getElem?_getD, List.getElem?_map, Array.getElem?_toList, Array.getElem?_eq_getElem (show k < s.data.size from hlt)]
        rfl
      rw [this]
      exact ho2
    · have hk' : k = s.size := by omega
      subst hk'
      have ho1 : Own wr w.heap.size 5 1 (.slice p s.size cap) s.size (vals .u8 (nats s)) := by
        rwa [List.take_of_length_le (by rw [nats_length]; exact Nat.le_refl _)] at ho
      clear ho hk hlt hs
      go_wp2_with (at_builtin; go_loud (refine wpList_append_G rfl _ _ 70 rfl _ 5 (.int .u8 0) 1 1 Tryd.underlying70 (by kernel_rfl) rfl (by decide) (ho1.alloc _) rfl [_] rfl rfl (new_cells _ _ _) (by simp [Value.oneCell']) (by have := HS.out; simp only [maxLen]; omega) (by have := HS.out; omega) (by have := hE.size; simp at this ⊢ <;> omega) ?_; intro v2 w2 ho2 hg2))
      have hE2 : Ext w w2 := ho1.grow (hE.alloc _) hg2 (Nat.le_refl _)
      have ho3 : Own w2 w.heap.size 5 1 v2 (s.size + 1 + 0) (vals .u8 (head s ++ List.replicate 0 0)) := by
        simpa [head, vals] using ho2
      clear ho1 hE hg2 ho2 hcap
      go_loopw [3] (fun v wr => ∃ k : Nat, k ≤ zeros s.size ∧ Own wr w.heap.size 5 1 v (s.size + 1 + k) (vals .u8 (head s ++ List.replicate k 0)) ∧ Ext w wr) (fun v _ => s.size + 1 + zeros s.size - lenV v)
      case atStart => exact ⟨0, Nat.zero_le _, ho3, hE2⟩
      case round =>
        clear ho3 hE2
        obtain ⟨k, hk, ho, hE⟩ := hrel
        obtain ⟨p, cap, rfl, hcap⟩ := ho.form'
        have hk2 : k < 64 := by unfold zeros at hk; omega
        have hsz := HS.out
        by_cases hlt : k < zeros s.size
        · have hmod : (s.size + 1 + k) % 64 ≠ 56 := by unfold zeros at hlt; omega
          go_wp2_with (at_builtin; go_loud (refine wpList_append_G rfl _ _ 70 rfl _ 5 (.int .u8 0) 1 1 Tryd.underlying70 (by kernel_rfl) rfl (by decide) (ho.alloc _) rfl [_] rfl rfl (new_cells _ _ _) (by simp [Value.oneCell']) (by skip; simp only [maxLen]; omega) (by skip; omega) (by have := hE.size; simp at this ⊢ <;> omega) ?_; intro v2 w2 ho2 hg2))
          refine ⟨⟨k + 1, by omega, ?_, ho.grow (hE.alloc _) hg2 (Nat.le_refl _)⟩, by simp [ho2.lenV, lenV_slice]; omega⟩
          rw [List.replicate_succ', ← List.append_assoc, vals_append]
          exact ho2
        · have hmod : (s.size + 1 + k) % 64 = 56 := by unfold zeros at hlt hk; omega
          have hkz : k = zeros s.size := by omega
          subst hkz
          go_wp2
          have hb : (((s.size : Int) + 1 + (zeros s.size : Int)) % 64 != 56) = false := by simp; omega
          simp only [hb]
          clear hb hmod hk hlt hcap
          have ho4 : Own wr w.heap.size 5 1 (.slice p (s.size + 1 + zeros s.size) cap) (s.size + 1 + zeros s.size + 0) (vals .u8 (head s ++ List.replicate (zeros s.size) 0 ++ (tail s.size).take 0)) := by
            rw [show (tail s.size).take 0 = [] from rfl, List.append_nil]; exact ho
          clear ho
          obtain ⟨w3, hw3⟩ : ∃ w3, w3 = wr := ⟨_, rfl⟩
          rw [← hw3] at hE ho4 ⊢
          clear hw3
          go_loopw [3, 5] (fun v i wr => ∃ j : Nat, j ≤ 8 ∧ i = .int .i64 (7 - (j : Int)) ∧ Own wr w.heap.size 5 1 v (s.size + 1 + zeros s.size + j) (vals .u8 (head s ++ List.replicate (zeros s.size) 0 ++ (tail s.size).take j)) ∧ Ext w wr) (fun v _ _ => s.size + 1 + zeros s.size + 8 - lenV v)
          case atStart => exact ⟨0, Nat.zero_le _, rfl, ho4, hE⟩
          case round =>
            clear ho4 hE
            obtain ⟨j, hj, rfl, ho, hE⟩ := hrel
            obtain ⟨p, cap, rfl, hcap⟩ := ho.form'
            by_cases hlt : j < 8
            · go_wp2_with (at_builtin; go_loud (refine wpList_append_G rfl _ _ 70 rfl _ 5 (.int .u8 0) 1 1 Tryd.underlying70 (by kernel_rfl) rfl (by decide) (ho.alloc _) rfl [_] rfl rfl (new_cells _ _ _) (by simp [Value.oneCell']) (by skip; simp only [maxLen]; omega) (by skip; omega) (by have := hE.size; simp at this ⊢ <;> omega) ?_; intro v2 w2 ho2 hg2))
              go_roundw
              case rel =>
                refine ⟨j + 1, by omega, by go_num, ?_, ho.grow (hE.alloc _) hg2 (Nat.le_refl _)⟩
                rw [tail_take _ _ hlt, ← List.append_assoc, vals_append]
                exact ho2
              case measure => simp [ho2.lenV, lenV_slice]; omega
            · have hj8 : j = 8 := by omega
              subst hj8
              go_wp2
              go_ret
              have hpe : head s ++ List.replicate (zeros s.size) 0 ++ (tail s.size).take 8 = padded (nats s) := by rw [pad_eq]; rfl
              have hpl : s.size + 1 + zeros s.size + 8 = (padded (nats s)).length := by
                rw [pad_eq]; simp only [List.length_append, head_length, List.length_replicate, show (tail s.size).length = 8 from rfl]
              rw [hpe, hpl] at ho
              refine ⟨_, rfl, ?_, hE⟩
              rw [← hpl]
              rw [← hpl] at ho
              exact ho

set_option maxRecDepth 100000 in
set_option maxHeartbeats 1000000 in
theorem constants_any (w : World) : Calls Tryd.prog 65 #[] w fun e w' => ∃ g, e = .returned (.slice (some ⟨g, 0, none⟩) 64 64) ∧ Cells w' g 0 .u32 consts ∧ Ext w w' ∧ w.heap.size ≤ g := by
  go_enter Tryd.func65, Tryd.ntmps65
  go_wp2
  go_ret
  exact ⟨_, rfl, cells_of_row (t := 83) ((Row.new w 83 _).trans (congrArg (fun l => some (Obj.cells l 83 (0, 0))) (by kernel_rfl))), (Ext.refl w).alloc _, Nat.le_refl _⟩
end Go.Proofs.YtjamakapkpkfeaaDoor
