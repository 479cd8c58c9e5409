import Derived.Test.YtjamakapkpkfeaaDoorRow
import Derived.Test.YtjamakapkpkfeaaDoorRot
namespace Go.Proofs.YtjamakapkpkfeaaDoor
open Go.RowKit Sha

theorem first_length (bs : List Nat) (n : Nat) : (first bs n).length = n := by
  induction n with
  | zero => rw [first_zero]; rfl
  | succ n ih => rw [first_succ, List.length_append, ih]; rfl
theorem more_length (l : List Nat) (n : Nat) : (more l n).length = l.length + n := by
  induction n with
  | zero => rw [more_zero]; rfl
  | succ n ih => rw [more_succ, List.length_append, ih]; rfl

theorem sched_length (bs : List Nat) : (sched bs).length = 64 := by rw [sched_eq, more_length, first_length]
/-- The word as the walk spells it. -/
theorem word_walk (a0 a1 a2 a3 : Nat) (h3 : a3 < 256) :
    bits BinOp.or IntKind.u32 (bits BinOp.or IntKind.u32 (bits BinOp.or IntKind.u32 ((a0 : Int) % 4294967296 * 16777216 % 4294967296) ((a1 : Int) % 4294967296 * 65536 % 4294967296)) ((a2 : Int) % 4294967296 * 256 % 4294967296)) ((a3 : Int) % 4294967296) =
      (((((a0 * 16777216 % 4294967296 ||| a1 * 65536 % 4294967296) ||| a2 * 256 % 4294967296) ||| a3 : Nat)) : Int) := by
  have e0 : (a0 : Int) % 4294967296 * 16777216 % 4294967296 = ((a0 * 16777216 % 4294967296 : Nat) : Int) := by omega
  have e1 : (a1 : Int) % 4294967296 * 65536 % 4294967296 = ((a1 * 65536 % 4294967296 : Nat) : Int) := by omega
  have e2 : (a2 : Int) % 4294967296 * 256 % 4294967296 = ((a2 * 256 % 4294967296 : Nat) : Int) := by omega
  have e3 : (a3 : Int) % 4294967296 = ((a3 : Nat) : Int) := by omega
  have l0 : a0 * 16777216 % 4294967296 < 4294967296 := Nat.mod_lt _ (by decide)
  have l1 : a1 * 65536 % 4294967296 < 4294967296 := Nat.mod_lt _ (by decide)
  have l2 : a2 * 256 % 4294967296 < 4294967296 := Nat.mod_lt _ (by decide)
  rw [e0, e1, e2, e3, bits_or_u32 _ _ l0 l1, bits_or_u32 _ _ (or_lt l0 l1) l2, bits_or_u32 _ _ (or_lt (or_lt l0 l1) l2) (by omega)]

theorem word_lt (b : List Nat) (i : Nat) (h : at_ b (4 * i + 3) < 256) : word b i < 4294967296 :=
  or_lt (or_lt (or_lt (Nat.mod_lt _ (by decide)) (Nat.mod_lt _ (by decide))) (Nat.mod_lt _ (by decide))) (by omega)

theorem next_walk {a x b y : Nat} (hx : x < 4294967296) (hy : y < 4294967296) :
    ((a : Int) + bits BinOp.xor IntKind.u32 ((rotr x 7 ^^^ rotr x 18 : Nat) : Int) ((x : Int) / 8) + (b : Int) + bits BinOp.xor IntKind.u32 ((rotr y 17 ^^^ rotr y 19 : Nat) : Int) ((y : Int) / 1024)) % 4294967296 =
      (((a + sg0 x + b + sg1 y) % 4294967296 : Nat) : Int) := by
  rw [show (x : Int) / 8 = ((x / 8 : Nat) : Int) by omega, show (y : Int) / 1024 = ((y / 1024 : Nat) : Int) by omega,
    bits_xor_u32 _ _ (xor_lt (rotr_lt _ hx) (rotr_lt _ hx)) (div_lt _ hx), bits_xor_u32 _ _ (xor_lt (rotr_lt _ hy) (rotr_lt _ hy)) (div_lt _ hy)]
  unfold sg0 sg1
  omega
theorem next_take {l : List Nat} {k : Nat} (h : 16 ≤ k) (_ : k ≤ l.length) : next (l.take k) k = next l k := by
  unfold next
  rw [at_take (by omega), at_take (by omega), at_take (by omega), at_take (by omega)]

set_option maxRecDepth 100000 in
set_option maxHeartbeats 1000000 in
theorem schedule_any (pb po cap : Nat) (bs : List Nat) (hl : bs.length = 64) (hbs : Good bs 256) (w : World) (hc : Cells w pb po .u8 bs) :
    Calls Tryd.prog 81 #[.slice (some ⟨pb, po, none⟩) 64 cap] w fun e w' => e = .returned (.agg (vals .u32 (sched bs)).toArray) ∧ Ext w w' := by
  have HC := Lib.hid hc
  have HL := Lib.hid hl
  have HG := Lib.hid hbs
  clear hc hl hbs
  go_enter Tryd.func81, Tryd.ntmps81
  go_wp2
  go_loopw [7] (fun i wr => ∃ k : Nat, k ≤ 16 ∧ i = .int .i64 k ∧ ∃ cs : List Nat, Hid (cs.length = 64 ∧ cs.take k = first bs k ∧ Good cs 4294967296) ∧ Row wr w.heap.size 121 (vals .u32 cs) ∧ Ext w wr) (fun i _ => 16 - (intOf i).toNat)
  case atStart =>
    refine ⟨0, Nat.zero_le _, rfl, List.replicate 64 0, Lib.hid ⟨rfl, by rw [first_zero]; rfl, good_zeros 64⟩, Row.new w 121 _, (Ext.refl w).alloc _⟩
  case round =>
    obtain ⟨k, hk, rfl, cs, hcs, hrow, hE⟩ := hrel
    by_cases hlt : k < 16
    · have hcell := hrow.nat k (by have := hcs.out.1; omega)
      have hfr := hrow.frozen k
      have HCu := fun u => (HC.out.ext hE).plus u
      have h0 : ∀ u, (wplus wr u).cell? ⟨pb, po + 4 * k, none⟩ = some (.int .u8 (at_ bs (4 * k) : Nat)) := fun u => HCu u (4 * k) (by have := HL.out; omega)
      have h1 : ∀ u, (wplus wr u).cell? ⟨pb, po + (4 * k + 1), none⟩ = some (.int .u8 (at_ bs (4 * k + 1) : Nat)) := fun u => HCu u (4 * k + 1) (by have := HL.out; omega)
      have h2 : ∀ u, (wplus wr u).cell? ⟨pb, po + (4 * k + 2), none⟩ = some (.int .u8 (at_ bs (4 * k + 2) : Nat)) := fun u => HCu u (4 * k + 2) (by have := HL.out; omega)
      have h3 : ∀ u, (wplus wr u).cell? ⟨pb, po + (4 * k + 3), none⟩ = some (.int .u8 (at_ bs (4 * k + 3) : Nat)) := fun u => HCu u (4 * k + 3) (by have := HL.out; omega)
      clear HCu
      have HW : Hid (bits BinOp.or IntKind.u32 (bits BinOp.or IntKind.u32 (bits BinOp.or IntKind.u32 ((at_ bs (4 * k) : Int) % 4294967296 * 16777216 % 4294967296) ((at_ bs (4 * k + 1) : Int) % 4294967296 * 65536 % 4294967296)) ((at_ bs (4 * k + 2) : Int) % 4294967296 * 256 % 4294967296)) ((at_ bs (4 * k + 3) : Int) % 4294967296) = (word bs k : Nat)) :=
        word_walk _ _ _ _ (HG.out _ (by have := HL.out; omega))
      go_wp2
      refine wp_region_plan [35] (.step 0 .pure (.step 1 .pure (.step 2 .pure (.step 3 .pure (.step 4 .pure (.step 5 .read (.step 6 .pure (.step 7 .pure (.step 8 .pure (.step 9 .pure (.step 10 .pure (.step 11 .pure (.step 12 .pure (.step 13 .read (.step 14 .pure (.step 15 .pure (.step 16 .pure (.step 17 .pure (.step 18 .pure (.step 19 .pure (.step 20 .pure (.step 21 .pure (.step 22 .read (.step 23 .pure (.step 24 .pure (.step 25 .pure (.step 26 .pure (.step 27 .pure (.step 28 .pure (.step 29 .pure (.step 30 .pure (.step 31 .read (.step 32 .pure (.step 33 .pure (.step 34 .pure (.step 35 (.eff true) (.fin))))))))))))))))))))))))))))))))))))) (by kernel_rfl) (by kernel_rfl) (Ext.refl wr) ?_
      simp only [pickOps, List.getD_cons_zero, List.getD_cons_succ]
      repeat (first
        | (refine plan_pure (by rfl) ?_; intro N hN; go_big_quiet_op; go_big_quiet_on)
        | (refine plan_read (by rfl) ?_; intro N hN; go_big_quiet_op; go_big_quiet_on)
        | (refine plan_skip (by rfl) ?_; simp only [Act.put, List.setIfInBounds_toArray, List.set_cons_zero, List.set_cons_succ]))
      refine plan_eff (by rfl) ?_
      intro N hN
      go_big_op
      refine hN _ _ _ (fun h => by cases h) (Ext.refl _) ?_
      refine plan_nil ?_
      rw [HW.out]
      go_wp2
      go_roundw
      case rel =>
        refine ⟨k + 1, by omega, by go_num, cs.set k (word bs k), Lib.hid ⟨by simp [hcs.out.1], ?_, good_set hcs.out.2.2 (word_lt _ _ (HG.out _ (by have := HL.out; omega)))⟩, hrow.setNat _ _, ?_⟩
        · rw [take_set_succ _ _ _ (by have := hcs.out.1; omega), hcs.out.2.1, first_succ]
        · exact hE.drew.setCell (Nat.le_refl _) _
      case measure => simp [intOf]; omega
    · have hk' : k = 16 := by omega
      subst hk'
      go_wp2
      go_loopw [4] (fun i wr => ∃ k : Nat, 16 ≤ k ∧ k ≤ 64 ∧ i = .int .i64 k ∧ ∃ cs : List Nat, Hid (cs.length = 64 ∧ cs.take k = more (first bs 16) (k - 16) ∧ Good cs 4294967296) ∧ Row wr w.heap.size 121 (vals .u32 cs) ∧ Ext w wr) (fun i _ => 64 - (intOf i).toNat)
      case atStart =>
        exact ⟨16, Nat.le_refl _, by decide, rfl, cs, by rw [Nat.sub_self, more_zero]; exact hcs, hrow, hE⟩
      case round =>
        clear hrow hE hcs hlt hk
        obtain ⟨k, hk0, hk, rfl, cs, hcs, hrow, hE⟩ := hrel
        by_cases hlt : k < 64
        · have hcell := hrow.nat k (by have := hcs.out.1; omega)
          have hfr := hrow.frozen k
          have HCu := fun u => (hrow.plus u).nat
          have c1 : ∀ u, (wplus wr u).cell? ⟨w.heap.size, k - 15, none⟩ = some (.int .u32 (at_ cs (k - 15) : Nat)) := fun u => HCu u (k - 15) (by have := hcs.out.1; omega)
          have c2 : ∀ u, (wplus wr u).cell? ⟨w.heap.size, k - 2, none⟩ = some (.int .u32 (at_ cs (k - 2) : Nat)) := fun u => HCu u (k - 2) (by have := hcs.out.1; omega)
          have c3 : ∀ u, (wplus wr u).cell? ⟨w.heap.size, k - 16, none⟩ = some (.int .u32 (at_ cs (k - 16) : Nat)) := fun u => HCu u (k - 16) (by have := hcs.out.1; omega)
          have c4 : ∀ u, (wplus wr u).cell? ⟨w.heap.size, k - 7, none⟩ = some (.int .u32 (at_ cs (k - 7) : Nat)) := fun u => HCu u (k - 7) (by have := hcs.out.1; omega)
          have hx1 : at_ cs (k - 15) < 4294967296 := hcs.out.2.2 _ (by have := hcs.out.1; omega)
          have hx2 : at_ cs (k - 2) < 4294967296 := hcs.out.2.2 _ (by have := hcs.out.1; omega)
          clear HCu
          go_wp2
          refine wp_region_plan [] (.step 0 .pure (.step 1 .pure (.step 2 .pure (.step 3 .read (.step 4 .pure (.step 5 .pure (.step 6 .pure (.step 7 .read (.step 8 .pure (.step 9 .pure (.fin))))))))))) (by kernel_rfl) (by kernel_rfl) (Ext.refl wr) ?_
          simp only [pickOps, List.getD_cons_zero, List.getD_cons_succ]
          repeat (first
            | (refine plan_pure (by rfl) ?_; intro N hN; go_big_quiet_op; go_big_quiet_on)
            | (refine plan_read (by rfl) ?_; intro N hN; go_big_quiet_op; go_big_quiet_on)
            | (refine plan_skip (by rfl) ?_; simp only [Act.put, List.setIfInBounds_toArray, List.set_cons_zero, List.set_cons_succ]))
          refine plan_nil ?_
          go_wp2
          refine wp_region_plan [25] (.step 0 .pure (.step 1 .pure (.step 2 .pure (.step 3 .pure (.step 4 .read (.step 5 .pure (.step 8 .pure (.step 9 .pure (.step 12 .pure (.step 13 .pure (.step 14 .pure (.step 15 .read (.step 17 .pure (.step 20 .pure (.step 21 .pure (.br (.step 6 (.eff false) (.br (.step 7 (.eff false) (.step 10 .pure (.step 11 .pure (.step 16 .pure (.step 18 (.eff false) (.step 19 (.eff false) (.step 22 .pure (.step 23 .pure (.step 24 .pure (.step 25 (.eff true) (.fin))))))))))) (.step 18 (.eff false) (.step 7 (.eff false) (.step 10 .pure (.step 11 .pure (.step 16 .pure (.step 19 (.eff false) (.step 22 .pure (.step 23 .pure (.step 24 .pure (.step 25 (.eff true) (.fin))))))))))))) (.step 18 (.eff false) (.step 6 (.eff false) (.step 7 (.eff false) (.step 10 .pure (.step 11 .pure (.step 16 .pure (.step 19 (.eff false) (.step 22 .pure (.step 23 .pure (.step 24 .pure (.step 25 (.eff true) (.fin)))))))))))))))))))))))))))) (by kernel_rfl) (by kernel_rfl) ((Ext.refl wr).drew) ?_
          simp only [pickOps, List.getD_cons_zero, List.getD_cons_succ]
          have hE0 : Ext wr wr.drew.drew := (Ext.refl wr).drew.drew
          repeat (any_goals (first
            | (refine plan_pure (by rfl) ?_; intro N hN; go_big_quiet_op; go_big_quiet_on)
            | (refine plan_read (by rfl) ?_; intro N hN; go_big_quiet_op; go_big_quiet_on)
            | (refine plan_br ?_ ?_)
            | (refine plan_eff (by rfl) ?_; intro N hN; go_big_op; refine plan_alloc hN (by assumption) ?_; intro W1 hR1 hE1 hE2; have hcW := (hrow.ext hE2).nat k (by have := hcs.out.1; omega); have hfW := (hrow.ext hE2).frozen k)
            | (refine plan_eff (by rfl) ?_; intro N hN; go_big_op; go_at_call 82; (with_reducible refine (mixed2 7 18 (by decide) (by decide) hx1 ?_).mono ?_); (focus (first | assumption | exact Row.ext (by assumption) (by assumption))); rintro e w' ⟨rfl, rfl⟩; refine hN _ _ _ (fun _ => Ext.refl _) (by assumption) ?_)
            | (refine plan_eff (by rfl) ?_; intro N hN; go_big_op; go_at_call 82; (with_reducible refine (mixed2 17 19 (by decide) (by decide) hx2 ?_).mono ?_); (focus (first | assumption | exact Row.ext (by assumption) (by assumption))); rintro e w' ⟨rfl, rfl⟩; refine hN _ _ _ (fun _ => Ext.refl _) (by assumption) ?_)))
          all_goals (refine plan_eff (by rfl) ?_; intro N hN; go_big_op; refine hN _ _ _ (fun h => by cases h) (Ext.refl _) ?_; refine plan_nil ?_)
          all_goals
            go_wp2
            go_roundw
            case rel =>
              refine ⟨k + 1, by omega, by omega, by go_num, cs.set k (next cs k), Lib.hid ⟨by rw [List.length_set]; exact hcs.out.1, ?_, good_set hcs.out.2.2 (Nat.mod_lt _ (by decide))⟩, by rw [next_walk hx1 hx2]; exact (hrow.ext hE2).setNat _ _, ?_⟩
              · rw [take_set_succ _ _ _ (by have := hcs.out.1; omega), hcs.out.2.1, show k + 1 - 16 = (k - 16) + 1 by omega]
                rw [more_succ, show 16 + (k - 16) = k by omega, ← hcs.out.2.1, next_take hk0 (by have := hcs.out.1; omega)]
              · exact (hE.trans hE2).setCell (Nat.le_refl _) _
            case measure => simp [intOf]; omega
        · have hk' : k = 64 := by omega
          subst hk'
          have hcl : (vals .u32 cs).length = 64 := by rw [vals_length]; exact hcs.out.1
          have hcs' : cs = sched bs := by
            have := hcs.out.2.1
            rw [List.take_of_length_le (by have := hcs.out.1; omega)] at this
            rw [this, sched_eq]
          have HL := Lib.hid hcl
          have HCS := Lib.hid hcs'
          clear hcl hcs'
          go_wp2_with (first
            | refine wpList_load_row rfl _ _ rfl hrow rfl _ Tryd.underlying121 rfl (by rw [HL.out]; kernel_rfl) ?_
            | (refine wpList_store_row rfl _ _ _ rfl hrow _ rfl rfl rfl (by rw [HL.out]; kernel_rfl) (oneCell_vals _ _) ?_; intro w1 hrow1 hg1))
          refine ret_row rfl rfl hrow1 _ Tryd.underlying121 rfl (by rw [HL.out]; kernel_rfl) rfl ⟨by rw [HCS.out], ?_⟩
          exact hE.grown hg1 (fun k e => by cases e; exact Nat.le_refl _)
end Go.Proofs.YtjamakapkpkfeaaDoor
