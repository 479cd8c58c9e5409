/- A packet with something changed: contract of Bent. -/
import Derived.Test.YtjamakapkpkfeaaDoorCmp
import Derived.Test.YtjamakapkpkfeaaDoorInp
namespace Go.Proofs.YtjamakapkpkfeaaDoor
open Go.RowKit Go.Shelf Sha

namespace Sha
def bentP (p : Pkt) (how n : Int) : Pkt := match pickN how 5 with
  | 0 => { p with ser := n }
  | 1 => { p with ack := n }
  | 2 => { p with body := p.body ++ str [pickN n 256] }
  | 3 => { p with body := bodyOf n }
  | _ => { p with sl := keyAt (pickN n 2) }
end Sha

set_option maxRecDepth 100000 in
set_option maxHeartbeats 2000000 in
theorem bent_any (p : Pkt) (how n : Int) (hh : I64 how) (hn : I64 n) (hb : p.body.size ≤ 1000) (w : World) :
    Calls Tryd.prog 25 #[p.val, .int .i64 how, .int .i64 n] w fun e w' => e = .returned (bentP p how n).val ∧ Ext w w' := by
  obtain ⟨ser, ack, body, sl⟩ := p
  dsimp only at hb
  have HP := Lib.hid (pick_any how 5 (by decide) (by decide) hh)
  have hlt := pickN_lt how (n := 5) (by decide)
  have Hd : ∀ k, pickN how 5 = k → Hid (bentP ⟨ser, ack, body, sl⟩ how n = match k with
    | 0 => ⟨n, ack, body, sl⟩ | 1 => ⟨ser, n, body, sl⟩ | 2 => ⟨ser, ack, body ++ str [pickN n 256], sl⟩ | 3 => ⟨ser, ack, bodyOf n, sl⟩ | _ => ⟨ser, ack, body, keyAt (pickN n 2)⟩) := fun k hk => Lib.hid (by
      subst hk
      unfold bentP
      generalize pickN how 5 = k
      match k with | 0 => rfl | 1 => rfl | 2 => rfl | 3 => rfl | _ + 4 => rfl)
  generalize hk : pickN how 5 = k at *
  have Hd := Hd k rfl
  clear hk
  generalize bentP ⟨ser, ack, body, sl⟩ how n = q at *
  have HB := Lib.hid (body_any n hn)
  have HK := Lib.hid (key_any n hn)
  have HN := Lib.hid (pick_any n 256 (by decide) (by decide) hn)
  go_enter Tryd.func25, Tryd.ntmps25
  unfold Pkt.val Pkt.cells at *
  have hr3 := Row.new w 24 [.int .i64 ser, .int .i64 ack, .string body, .string sl]
  have hE1 := ((Ext.refl w).alloc (.cells #[.int .i64 ser, .int .i64 ack, .string body, .string sl] 24)).alloc (.cells #[.int .i64 0, .int .i64 0, .string ⟨#[]⟩, .string ⟨#[]⟩] 24)
  have hr6 := Row.new (w.alloc (.cells #[.int .i64 ser, .int .i64 ack, .string body, .string sl] 24)) 24 [.int .i64 0, .int .i64 0, .string ⟨#[]⟩, .string ⟨#[]⟩]
  rw [World.size_alloc] at hr6
  have hr3 := hr3.alloc (.cells #[.int .i64 0, .int .i64 0, .string ⟨#[]⟩, .string ⟨#[]⟩] 24)
  rcases (show k = 0 ∨ k = 1 ∨ k = 2 ∨ k = 3 ∨ k = 4 by omega) with rfl | rfl | rfl | rfl | rfl
  · go_wp2_with (go_at_call 45; refine (HP.out _).mono ?_; rintro e w1 ⟨rfl, hw⟩; subst w1)
    refine bodyPost_ret (results_cell_row rfl _ _ (w.heap.size + 1) _ _ _ _ rfl (heap_alloc2_new w _ _) Tryd.underlying24 rfl (by kernel_rfl)) rfl ⟨?_, ((Ext.refl w).alloc _).alloc _⟩
    rw [Hd.out]
  · go_wp2_with (go_at_call 45; refine (HP.out _).mono ?_; rintro e w1 ⟨rfl, hw⟩; subst w1)
    refine bodyPost_ret (results_cell_row rfl _ _ (w.heap.size + 1) _ _ _ _ rfl (heap_alloc2_new w _ _) Tryd.underlying24 rfl (by kernel_rfl)) rfl ⟨?_, ((Ext.refl w).alloc _).alloc _⟩
    rw [Hd.out]
  · go_wp2_with (go_at_call 45; refine (HP.out _).mono ?_; rintro e w1 ⟨rfl, hw⟩; subst w1)
    generalize hw1 : (w.alloc (.cells #[.int .i64 ser, .int .i64 ack, .string body, .string sl] 24)).alloc (.cells #[.int .i64 0, .int .i64 0, .string ⟨#[]⟩, .string ⟨#[]⟩] 24) = w1 at *
    have hE1 : Ext w w1 := hE1
    have hq3 : Row w1 w.heap.size 24 [.int .i64 ser, .int .i64 ack, .string body, .string sl] := hr3
    have hq6 : Row w1 (w.heap.size + 1) 24 [.int .i64 0, .int .i64 0, .string ⟨#[]⟩, .string ⟨#[]⟩] := hr6
    clear hw1 hr3 hr6
    have f2 : ∀ u, (wplus w1 u).cell? ⟨w.heap.size, 2, none⟩ = some (.string body) := fun u => (hq3.plus u).cell 2 (by show 2 < 4; decide)
    have hn256 := pickN_lt n (n := 256) (by decide)
    refine wp_region_plan [9] (.step 0 .pure (.step 1 .read (.step 2 .pure (.step 3 (.eff false) (.step 4 .pure (.step 5 (.eff false) (.step 6 .read (.step 7 .pure (.step 8 .pure (.step 9 (.eff true) (.fin))))))))))) (by kernel_rfl) (by kernel_rfl) (Ext.refl w1) ?_
    simp only [pickOps, List.getD_cons_zero, List.getD_cons_succ]
    repeat (first
      | (refine pure_n rfl ?_; intro N hN; go_big_quiet_op; go_big_quiet_on)
      | (refine read_n rfl ?_; intro N hN; go_big_quiet_op; go_big_quiet_on)
      | (refine pure_g rfl rfl rfl rfl ?_; intro N hN; go_big_quiet_op; go_big_quiet_on)
      | (refine read_g rfl rfl rfl rfl ?_; intro N hN; go_big_quiet_op; go_big_quiet_on)
      | (refine skip_g rfl rfl rfl rfl ?_; simp only [Act.put, List.setIfInBounds_toArray, List.set_cons_zero, List.set_cons_succ]))
    refine eff_n rfl ?_
    intro N hN
    go_big_op
    refine (HN.out _).mono ?_
    rintro e w' ⟨rfl, rfl⟩
    refine hN _ w1 _ (fun _ => Ext.refl _) (Ext.refl w1).drew ?_
    repeat (first
      | (refine pure_n rfl ?_; intro N hN; go_big_quiet_op; go_big_quiet_on)
      | (refine read_n rfl ?_; intro N hN; go_big_quiet_op; go_big_quiet_on)
      | (refine pure_g rfl rfl rfl rfl ?_; intro N hN; go_big_quiet_op; go_big_quiet_on)
      | (refine read_g rfl rfl rfl rfl ?_; intro N hN; go_big_quiet_op; go_big_quiet_on)
      | (refine skip_g rfl rfl rfl rfl ?_; simp only [Act.put, List.setIfInBounds_toArray, List.set_cons_zero, List.set_cons_succ]))
    refine eff_n rfl ?_
    intro N hN
    go_big_op
    refine plan_alloc2 hN (Ext.refl w1).drew ?_
    intro W1 hR1 hE1' hE2'
    have hst : ∀ u, (convert 70 9 (.slice (some ⟨w1.heap.size, 0, none⟩) 1 1)).run Tryd.prog (wplus W1 u) = .ok (.string (str [pickN n 256])) (wplus W1 u) := fun u =>
      run_bytes_str ((cells_of_row (k := .u8) (l := [pickN n 256]) hR1).plus u) (by rw [good_iff]; intro x hx; simp only [List.mem_cons, List.not_mem_nil, or_false] at hx; omega) rfl Tryd.underlying70 Tryd.underlying5 Tryd.underlying9 1
    have hss : (str [pickN n 256]).size = 1 := by rw [str_size]; rfl
    have f2 : ∀ u, (wplus W1 u).cell? ⟨w.heap.size, 2, none⟩ = some (.string body) := fun u => ((hq3.ext hE2').plus u).cell 2 (by show 2 < 4; decide)
    generalize str [pickN n 256] = cb at *
    repeat (first
      | (refine pure_n rfl ?_; intro N hN; go_big_quiet_op; go_big_quiet_on)
      | (refine read_n rfl ?_; intro N hN; go_big_quiet_op; go_big_quiet_on)
      | (refine pure_g rfl rfl rfl rfl ?_; intro N hN; go_big_quiet_op; go_big_quiet_on)
      | (refine read_g rfl rfl rfl rfl ?_; intro N hN; go_big_quiet_op; go_big_quiet_on)
      | (refine skip_g rfl rfl rfl rfl ?_; simp only [Act.put, List.setIfInBounds_toArray, List.set_cons_zero, List.set_cons_succ]))
    have d2 : W1.cell? ⟨w.heap.size, 2, none⟩ = some (.string body) := (hq3.ext hE2').cell 2 (by show 2 < 4; decide)
    have z2 : W1.frozen? ⟨w.heap.size, 2, none⟩ = false := (hq3.ext hE2').frozen 2
    refine eff_n rfl ?_
    intro N hN
    go_big_op
    refine hN _ _ _ (fun h => by cases h) (Ext.refl _) ?_
    refine plan_nil ?_
    have hs := (hq3.ext hE2').set 2 (.string (body ++ cb))
    have hs6 := (hq6.ext hE2').other (p := ⟨w.heap.size, 2, none⟩) (by show w.heap.size ≠ _; omega) (.string (body ++ cb))
    have hEs := (hE1.trans hE2').setCell (p := ⟨w.heap.size, 2, none⟩) (Nat.le_refl _) (.string (body ++ cb))
    go_wp2_with (first
      | (refine wpList_load_row rfl 24 _ rfl hs rfl _ Tryd.underlying24 rfl (by kernel_rfl) ?_)
      | (refine wpList_store_row rfl 24 _ _ rfl hs6 _ rfl rfl rfl (by kernel_rfl) (by intro u hu; simp at hu; rcases hu with rfl | rfl | rfl | rfl <;> rfl) ?_; intro w3 hr3 hg3; have hEf := hEs.grown hg3 (fun k e => by cases e; omega)))
    refine bodyPost_ret (results_cell_row rfl _ _ (w.heap.size + 1) _ _ _ _ rfl hr3 Tryd.underlying24 rfl (by kernel_rfl)) rfl ⟨?_, hEf⟩
    rw [Hd.out]
    rfl
  · go_wp2_with (first
      | (go_at_call 45; go_loud (refine (HP.out _).mono ?_; rintro e w1 ⟨rfl, hw⟩; subst w1))
      | (go_at_call 19; go_loud (refine (HB.out _).mono ?_; rintro e w2 ⟨rfl, hE2⟩; have hq := hr3.ext hE2; have hq6 := hr6.ext hE2; have d2 := hq.cell 2 (by show 2 < 4; decide); have z2 := hq.frozen 2; have hs := hq.set 2 (.string (bodyOf n)); have hs6 := hq6.other (p := ⟨w.heap.size, 2, none⟩) (by show w.heap.size ≠ _; omega) (.string (bodyOf n)); have hEs := (hE1.trans hE2).setCell (p := ⟨w.heap.size, 2, none⟩) (Nat.le_refl _) (.string (bodyOf n))))
      | (refine wpList_load_row rfl 24 _ rfl hs rfl _ Tryd.underlying24 rfl (by kernel_rfl) ?_)
      | (refine wpList_store_row rfl 24 _ _ rfl hs6 _ rfl rfl rfl (by kernel_rfl) (by intro u hu; simp at hu; rcases hu with rfl | rfl | rfl | rfl <;> rfl) ?_; intro w3 hr3 hg3; have hEf := hEs.grown hg3 (fun k e => by cases e; omega)))
    refine bodyPost_ret (results_cell_row rfl _ _ (w.heap.size + 1) _ _ _ _ rfl hr3 Tryd.underlying24 rfl (by kernel_rfl)) rfl ⟨?_, hEf⟩
    rw [Hd.out]
    rfl
  · go_wp2_with (first
      | (go_at_call 45; go_loud (refine (HP.out _).mono ?_; rintro e w1 ⟨rfl, hw⟩; subst w1))
      | (go_at_call 17; go_loud (refine (HK.out _).mono ?_; rintro e w2 ⟨rfl, hE2⟩; have hq := hr3.ext hE2; have hq6 := hr6.ext hE2; have d2 := hq.cell 3 (by show 3 < 4; decide); have z2 := hq.frozen 3; have hs := hq.set 3 (.string (keyAt (pickN n 2))); have hs6 := hq6.other (p := ⟨w.heap.size, 3, none⟩) (by show w.heap.size ≠ _; omega) (.string (keyAt (pickN n 2))); have hEs := (hE1.trans hE2).setCell (p := ⟨w.heap.size, 3, none⟩) (Nat.le_refl _) (.string (keyAt (pickN n 2)))))
      | (refine wpList_load_row rfl 24 _ rfl hs rfl _ Tryd.underlying24 rfl (by kernel_rfl) ?_)
      | (refine wpList_store_row rfl 24 _ _ rfl hs6 _ rfl rfl rfl (by kernel_rfl) (by intro u hu; simp at hu; rcases hu with rfl | rfl | rfl | rfl <;> rfl) ?_; intro w3 hr3 hg3; have hEf := hEs.grown hg3 (fun k e => by cases e; omega)))
    refine bodyPost_ret (results_cell_row rfl _ _ (w.heap.size + 1) _ _ _ _ rfl hr3 Tryd.underlying24 rfl (by kernel_rfl)) rfl ⟨?_, hEf⟩
    rw [Hd.out]
    rfl
end Go.Proofs.YtjamakapkpkfeaaDoor
