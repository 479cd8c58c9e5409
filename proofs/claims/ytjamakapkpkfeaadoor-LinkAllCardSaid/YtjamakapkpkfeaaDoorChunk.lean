/- slices.Chunk over bytes, 64 a time: contracts of the function and of the iterator. -/
import Derived.Test.YtjamakapkpkfeaaDoorApp
namespace Go.Proofs.YtjamakapkpkfeaaDoor
open Go.RowKit Go.Shelf Sha
attribute [local go_sem] Oper.semAt_some

set_option maxRecDepth 100000 in
set_option maxHeartbeats 1000000 in
theorem chunk_seq (g c cap B1 B2 : Nat) (hc : 64 * c ≤ cap) (hc2 : 64 * c ≤ 4611686018427387904) (w : World) (hb1 : w.cell? ⟨B1, 0, none⟩ = some (.slice (some ⟨g, 0, none⟩) (64 * c) cap)) (hb2 : w.cell? ⟨B2, 0, none⟩ = some (.int .i64 64))
    (p q : Nat → Prop) (hp1 : p B1) (hp2 : p B2) :
    Seq Tryd.prog 80 #[.pointer (some ⟨B1, 0, none⟩), .pointer (some ⟨B2, 0, none⟩)] (fun j : Nat => #[.slice (some ⟨g, 64 * j, none⟩) 64 64]) p q (List.range c) w := by
  intro l J Jx W hE hJ hJx hY h0
  refine callsIn_of_wp Tryd.func80 rfl trivial ?_ rfl
  have d1 := hE.cell hb1
  have d2 := hE.cell hb2
  simp only [Tryd.ntmps80, List.size_toArray, List.length_cons, List.length_nil, Nat.reduceAdd, Nat.reduceSub, Array.replicate_succ, Array.replicate_zero, List.push_toArray, List.append_toArray, List.nil_append, List.cons_append]
  gi_wp2
  gi_loopw [4] (fun i wr => ∃ k : Nat, k ≤ c ∧ i = .int .i64 ((64 * k : Nat) : Int) ∧ J k wr ∧ wr.cell? ⟨B1, 0, none⟩ = some (.slice (some ⟨g, 0, none⟩) (64 * c) cap) ∧ wr.cell? ⟨B2, 0, none⟩ = some (.int .i64 64)) (fun i _ => 64 * c - (intOf i).toNat)
  case atStart => exact ⟨0, Nat.zero_le _, rfl, h0, d1, d2⟩
  case round =>
    clear h0 d1 d2
    obtain ⟨k, hk, rfl, hJk, d1, d2⟩ := hrel
    by_cases hlt : k < c
    · have hJd := hJ _ _ wr.drew none hJk ⟨rfl, rfl, rfl, Nat.le_refl _, fun _ _ _ => rfl⟩ (by simp)
      obtain ⟨fn, tmps, assign, body, hy, hR⟩ := hY k k wr.drew (by simp [hlt]) hJd
      have f1 : ∀ u, (wplus wr u).cell? ⟨B1, 0, none⟩ = some (.slice (some ⟨g, 0, none⟩) (64 * c) cap) := fun u => (ext_wplus wr u).cell d1
      have f2 : ∀ u, (wplus wr u).cell? ⟨B2, 0, none⟩ = some (.int .i64 64) := fun u => (ext_wplus wr u).cell d2
      have e1 : wr.drew.cell? ⟨B1, 0, none⟩ = some (.slice (some ⟨g, 0, none⟩) (64 * c) cap) := d1
      gi_wp2
      refine wpIn_wide.2 ?_
      refine wp_region_plan [] (.step 0 .read (.step 1 .read (.step 2 .pure (.step 3 .pure (.step 4 .pure (.step 5 .pure (.step 6 .pure (.fin)))))))) (by kernel_rfl) (by kernel_rfl) (Ext.refl wr) ?_
      simp only [pickOps, List.getD_cons_zero, List.getD_cons_succ]
      repeat (first
        | (refine plan_pure (by rfl) ?_; intro N hN; go_big_quiet_op; go_big_quiet_on)
        | (refine plan_read (by rfl) ?_; intro N hN; go_big_quiet_op; go_big_quiet_on)
        | (refine plan_skip (by rfl) ?_; simp only [Act.put, List.setIfInBounds_toArray, List.set_cons_zero, List.set_cons_succ]))
      refine plan_nil ?_
      gi_wp2
      refine ⟨rfl, hR.mono ?_⟩
      rintro e W3 (⟨rfl, hJ3, hk3⟩ | ⟨rfl, hJx3⟩)
      · have g1 := hk3.cell e1 hp1
        have g2 := hk3.cell (show wr.drew.cell? _ = _ from d2) hp2
        gi_wp2
        exact ⟨⟨k + 1, by omega, by go_num, hJ3, g1, g2⟩, by simp [intOf]; omega⟩
      · gi_wp2
        refine bodyPost_ret (results_none rfl _ _ _) rfl ?_
        exact ⟨⟨_, rfl⟩, .inr ⟨k + 1, by simp; omega, hJx3⟩⟩
    · have hk' : k = c := by omega
      subst hk'
      gi_wp2
      go_end0
      exact ⟨⟨_, rfl⟩, .inl (by rw [List.length_range]; exact hJk)⟩

set_option maxHeartbeats 1000000 in
theorem chunk_any (p : Option Addr) (n cap : Nat) (w : World) :
    Calls Tryd.prog 74 #[.slice p n cap, .int .i64 64] w fun e w' => ∃ B1 B2, e = .returned (.func (.func 80) #[] #[.pointer (some ⟨B1, 0, none⟩), .pointer (some ⟨B2, 0, none⟩)]) ∧
      Ext w w' ∧ w.heap.size ≤ B1 ∧ B1 < w'.heap.size ∧ w.heap.size ≤ B2 ∧ B2 < w'.heap.size ∧ w'.cell? ⟨B1, 0, none⟩ = some (.slice p n cap) ∧ w'.cell? ⟨B2, 0, none⟩ = some (.int .i64 64) := by
  go_enter Tryd.func74, Tryd.ntmps74
  go_wp2
  go_ret
  have h1 := (Row.new w 70 [.slice p n cap]).alloc (.cells #[.int .i64 64] 3)
  have h2 := Row.new (w.alloc (.cells #[.slice p n cap] 70)) 3 [.int .i64 64]
  rw [World.size_alloc] at h2
  exact ⟨_, _, rfl, ((Ext.refl w).alloc _).alloc _, Nat.le_refl _, h1.lt, by omega, h2.lt, h1.cell 0 Nat.zero_lt_one, h2.cell 0 Nat.zero_lt_one⟩
end Go.Proofs.YtjamakapkpkfeaaDoor
