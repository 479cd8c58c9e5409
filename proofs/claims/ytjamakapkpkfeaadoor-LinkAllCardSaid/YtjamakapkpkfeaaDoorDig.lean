/- The words of a computation become a string: contract of the method digest. -/
import Derived.Test.YtjamakapkpkfeaaDoorAdd
namespace Go.Proofs.YtjamakapkpkfeaaDoor
open Go.RowKit Sha

theorem out_length (h : List Nat) : ∀ n, (out h n).length = 4 * n
  | 0 => by rw [out_zero]; rfl
  | n + 1 => by rw [out_succ, List.length_append, out_length h n]; simp [bytesOf]; omega
theorem out_good (h : List Nat) : ∀ n, Good (out h n) 256
  | 0 => by rw [out_zero]; intro j hj; cases hj
  | n + 1 => by
    rw [out_succ]
    refine good_append (out_good h n) ?_
    rw [good_iff]
    intro x hx
    simp only [bytesOf, List.mem_cons, List.not_mem_nil, or_false] at hx
    rcases hx with rfl | rfl | rfl | rfl <;> exact Nat.mod_lt _ (by decide)
/-- The byte with the number j of a word. -/
theorem byte_walk (x j : Nat) (hj : j < 4) : (x : Int) / 2 ^ (24 - 8 * j) % 256 = ((at_ (bytesOf x) j : Nat) : Int) := by
  rcases (show j = 0 ∨ j = 1 ∨ j = 2 ∨ j = 3 by omega) with rfl | rfl | rfl | rfl <;> simp [bytesOf, at_]
theorem bytes_take (x j : Nat) (hj : j < 4) : (bytesOf x).take (j + 1) = (bytesOf x).take j ++ [at_ (bytesOf x) j] := by
  rcases (show j = 0 ∨ j = 1 ∨ j = 2 ∨ j = 3 by omega) with rfl | rfl | rfl | rfl <;> rfl

set_option maxRecDepth 100000 in
set_option maxHeartbeats 1000000 in
theorem digest_any (hs : List Nat) (hhl : hs.length = 8) (w : World) :
    Calls Tryd.prog 76 #[.agg (vals .u32 hs).toArray] w fun e w' => e = .returned (.string (str (out hs 8))) ∧ Ext w w' := by
  have HVL : Hid ((vals .u32 hs).length = 8) := Lib.hid (by rw [vals_length]; exact hhl)
  have HHL := Lib.hid hhl
  clear hhl
  go_enter Tryd.func76, Tryd.ntmps76
  generalize hCL : vals .u32 hs = CL at *
  have HCL := Lib.hid hCL
  clear hCL
  go_wp2_with (refine wpList_load_row rfl 105 _ rfl (Row.alloc (Row.new w _ CL) _) rfl _ Tryd.underlying105 rfl (by rw [HVL.out]; kernel_rfl) ?_)
  have hE1 : Ext w ((w.alloc (.cells CL.toArray 105)).alloc (.cells (vals .u8 (List.replicate 32 0)).toArray 124)) := ((Ext.refl w).alloc _).alloc _
  have hr1 : Row ((w.alloc (.cells CL.toArray 105)).alloc (.cells (vals .u8 (List.replicate 32 0)).toArray 124)) (w.heap.size + 1) 124 (vals .u8 (List.replicate 32 0)) := by
    have := Row.new (w.alloc (.cells CL.toArray 105)) 124 (vals .u8 (List.replicate 32 0))
    rwa [World.size_alloc] at this
  have hob : w.heap.size ≤ w.heap.size + 1 := by omega
  have HE1 := Lib.hid hE1
  have HR1 := Lib.hid hr1
  clear hE1 hr1
  generalize hob' : w.heap.size + 1 = ob at *
  clear hob'
  go_loopw [8] (fun i wr => ∃ k : Nat, k ≤ 8 ∧ i = .int .i64 k ∧ ∃ cs : List Nat, Hid (cs.length = 32 ∧ cs.take (4 * k) = out hs k) ∧ Row wr ob 124 (vals .u8 cs) ∧ Ext w wr) (fun i _ => 8 - (intOf i).toNat)
  case atStart => exact ⟨0, Nat.zero_le _, rfl, List.replicate 32 0, Lib.hid ⟨rfl, by rw [out_zero]; rfl⟩, HR1.out, HE1.out⟩
  case round =>
    clear HR1 HE1
    obtain ⟨k, hk, rfl, cs, hcs, hrow, hE⟩ := hrel
    by_cases hlt : k < 8
    · have hck : CL[k]? = some (.int .u32 (at_ hs k : Nat)) := by rw [← HCL.out]; exact vals_at _ _ k (by rw [HHL.out]; exact hlt)
      go_wp2_with (refine wpList_index_arr rfl 105 _ _ rfl CL rfl k rfl 8 83 Tryd.underlying105 hlt .u32 Tryd.underlying83 (by kernel_rfl) hck ?_)
      go_loopw [12] (fun i wr => ∃ j : Nat, j ≤ 4 ∧ i = .int .i64 j ∧ ∃ cs : List Nat, Hid (cs.length = 32 ∧ cs.take (4 * k + j) = out hs k ++ (bytesOf (at_ hs k)).take j) ∧ Row wr ob 124 (vals .u8 cs) ∧ Ext w wr) (fun i _ => 4 - (intOf i).toNat)
      case atStart => exact ⟨0, Nat.zero_le _, rfl, cs, Lib.hid ⟨hcs.out.1, by rw [Nat.add_zero, hcs.out.2]; simp⟩, hrow, hE⟩
      case round =>
        clear hrow hE hcs cs
        obtain ⟨j, hj, rfl, cs, hcs, hrow, hE⟩ := hrel
        by_cases hjt : j < 4
        · have e3 := hrow.nat (4 * k + j) (by have := hcs.out.1; omega)
          have e4 := hrow.frozen (4 * k + j)
          go_wp2
          rw [byte_walk _ _ hjt]
          refine ⟨⟨j + 1, by omega, by go_num, cs.set (4 * k + j) (at_ (bytesOf (at_ hs k)) j), Lib.hid ⟨by rw [List.length_set]; exact hcs.out.1, ?_⟩, hrow.setNat _ _, hE.setCell hob _⟩, by simp [intOf]; omega⟩
          rw [← Nat.add_assoc, take_set_succ _ _ _ (by have := hcs.out.1; omega), hcs.out.2, bytes_take _ _ hjt, List.append_assoc]
        · have hj' : j = 4 := by omega
          subst hj'
          go_wp2
          refine ⟨⟨k + 1, by omega, by go_num, cs, Lib.hid ⟨hcs.out.1, ?_⟩, hrow, hE⟩, by simp [intOf]; omega⟩
          rw [show 4 * (k + 1) = 4 * k + 4 by omega, hcs.out.2, out_succ]
          rfl
    · have hk' : k = 8 := by omega
      subst hk'
      have hcs' : cs = out hs 8 := by
        have := hcs.out.2
        rwa [List.take_of_length_le (by have := hcs.out.1; omega)] at this
      have HCS := Lib.hid hcs'
      have hcc := cells_of_row hrow
      clear hcs'
      go_wp2_with (refine wpList_bytes_str rfl _ _ _ rfl 5 Tryd.underlying70 Tryd.underlying5 Tryd.underlying9 cs hcs.out.1 rfl hcc (by rw [HCS.out]; exact out_good _ _) ?_)
      go_ret
      exact ⟨by rw [← HCS.out]; rfl, hE⟩
end Go.Proofs.YtjamakapkpkfeaaDoor
