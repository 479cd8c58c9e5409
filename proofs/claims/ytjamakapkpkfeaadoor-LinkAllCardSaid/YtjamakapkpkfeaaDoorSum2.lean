/- The reference's digest of a string, its leaves and nodes. -/
import Derived.Test.YtjamakapkpkfeaaDoorBlk
namespace Go.Proofs.YtjamakapkpkfeaaDoor
open Go.RowKit Go.Shelf Sha

set_option maxRecDepth 100000 in
set_option maxHeartbeats 1000000 in
theorem sum2_any (s : ByteArray) (hs : s.size ≤ 1099511627776) (w : World) :
    Calls Tryd.prog 44 #[.string s] w fun e w' => e = .returned (.string (sha s)) ∧ Ext w w' := by
  have HS := Lib.hid hs
  clear hs
  go_enter Tryd.func44, Tryd.ntmps44
  obtain ⟨c, hc, hc2⟩ := pad_length s
  have hr0 := cells_of_row (k := .u32) (l := Sha.start) (Row.new w 83 (vals .u32 Sha.start))
  have hE0 := (Ext.refl w).alloc (.cells (vals .u32 Sha.start).toArray 83)
  go_wp2_with (go_at_call 53; refine (extended_any s HS.out _).mono ?_; rintro e w1 ⟨v1, rfl, ho1, hE1⟩)
  rw [hc] at ho1
  have hpl : 9 ≤ 64 * c := by rw [← hc, pad_eq]; simp only [List.length_append, head_length, show (tail s.size).length = 8 from rfl]; omega
  obtain ⟨gp, cap, rfl, hgb, hgl, hcap⟩ := ho1.form (by omega)
  have hr1 := hr0.ext hE1
  have hcp : Cells w1 gp 0 .u8 (padded (nats s)) := ho1.bytes rfl
  have hE01 : Ext w w1 := hE0.trans hE1
  have hgood := Lib.hid (good_padded s)
  have hcl := Lib.hid hc
  have hcs : 64 * c ≤ 1099511627776 + 73 := by have := HS.out; omega
  clear hr0 hE0 hE1 ho1 hgb hgl hc hc2
  generalize hB : padded (nats s) = B at *
  have HB := Lib.hid hB
  clear hB
  go_loopw [3, 5] (fun v i wr => ∃ k : Nat, k ≤ c ∧ i = .int .i64 ((64 * k : Nat) : Int) ∧ ∃ g' c', v = .slice (some ⟨g', 0, none⟩) 8 c' ∧ Cells wr g' 0 .u32 (chunks Sha.start B k) ∧ Ext w1 wr) (fun _ i _ => 64 * c - (intOf i).toNat)
  case atStart => exact ⟨0, Nat.zero_le _, rfl, _, _, rfl, by rw [chunks_zero]; exact hr1, Ext.refl _⟩
  case round =>
    clear hr1
    obtain ⟨k, hk, rfl, g', c', rfl, hcv, hE⟩ := hrel
    by_cases hlt : k < c
    · have hbl : ((B.drop (64 * k)).take 64).length = 64 := by rw [List.length_take, List.length_drop, hcl.out]; omega
      have hbg : Good ((B.drop (64 * k)).take 64) 256 := by
        rw [good_iff]; intro x hx; exact good_iff.1 hgood.out x (List.mem_of_mem_drop (List.mem_of_mem_take hx))
      have hbc : Cells wr gp (64 * k) .u8 ((B.drop (64 * k)).take 64) := by
        intro i hi
        rw [hbl] at hi
        have := (hcp.ext hE) (64 * k + i) (by rw [hcl.out]; omega)
        rw [Nat.zero_add] at this
        rw [this, at_take hi]
        simp [at_, List.getD_eq_getElem?_getD]
      have HBL := Lib.hid hbl
      have HBG := Lib.hid hbg
      clear hbl hbg
      generalize hbs : (B.drop (64 * k)).take 64 = bs at *
      have HBS := Lib.hid hbs
      clear hbs
      go_wp2_with (go_at_call 54; refine (blk_any _ (chunks_length _ _) (chunks_good _ _) _ _ _ _ _ _ HBL.out HBG.out _ hcv hbc).mono ?_; rintro e w2 ⟨v2, rfl, ho2, hE2⟩)
      obtain ⟨g2, c2, rfl, _⟩ := ho2.form (by decide)
      refine ⟨⟨k + 1, by omega, by go_num, g2, c2, rfl, ?_, hE.trans hE2⟩, by simp [intOf]; omega⟩
      rw [chunks_succ, HBS.out]
      exact ho2.bytes rfl
    · have hk' : k = c := by omega
      subst hk'
      go_wp2
      clear hlt hk hcap
      generalize hC : chunks Sha.start B k = C at *
      have HC := Lib.hid hC
      have HCL : Hid (C.length = 8) := Lib.hid (by rw [← hC]; exact chunks_length _ _)
      have HCG : Hid (Good C 4294967296) := Lib.hid (by rw [← hC]; exact chunks_good _ _)
      clear hC
      obtain ⟨w6, hw6⟩ : ∃ w6, w6 = wr := ⟨_, rfl⟩
      rw [← hw6] at hE hcv ⊢
      clear hw6
      go_loopw [6, 7] (fun v i wr => ∃ n : Nat, n ≤ 8 ∧ i = .int .i64 n ∧ Own wr w6.heap.size 5 1 v (4 * n) (vals .u8 (out C n)) ∧ Ext w6 wr) (fun _ i _ => 8 - (intOf i).toNat)
      case atStart => exact ⟨0, Nat.zero_le _, rfl, by rw [out_zero]; exact Own.nil _ _ _ _, Ext.refl _⟩
      case round =>
        obtain ⟨n, hn, rfl, ho, hE7⟩ := hrel
        by_cases hlt : n < 8
        · obtain ⟨p7, c7, rfl, hcap7⟩ := ho.form'
          have e1 : ∀ u, (wplus wr u).cell? ⟨g', n, none⟩ = some (.int .u32 (at_ C n : Nat)) := fun u => by have := (hcv.ext hE7).plus u n (by rw [HCL.out]; exact hlt); rwa [Nat.zero_add] at this
          go_wp2
          refine wp_region_plan [25] (.step 0 .pure (.step 1 .pure (.step 2 .pure (.step 3 .pure (.step 4 .read (.step 5 .pure (.step 6 .pure (.step 7 .pure (.step 8 .pure (.step 9 .pure (.step 10 .read (.step 11 .pure (.step 12 .pure (.step 13 .pure (.step 14 .pure (.step 15 .pure (.step 16 .read (.step 17 .pure (.step 18 .pure (.step 19 .pure (.step 20 .pure (.step 21 .pure (.step 22 .read (.step 23 .pure (.step 24 (.eff false) (.step 25 (.eff true) (.step 26 .pure (.fin)))))))))))))))))))))))))))) (by kernel_rfl) (by kernel_rfl) (Ext.refl wr) ?_
          simp only [pickOps, List.getD_cons_zero, List.getD_cons_succ]
          repeat (first
            | (refine plan_pure (by rfl) ?_; intro N hN; go_big_quiet_op; go_big_quiet_on)
            | (refine plan_read (by rfl) ?_; intro N hN; go_big_quiet_op; go_big_quiet_on)
            | (refine plan_skip (by rfl) ?_; simp only [Act.put, List.setIfInBounds_toArray, List.set_cons_zero, List.set_cons_succ]))
          refine plan_eff (by rfl) ?_
          intro N hN
          go_big_op
          refine plan_alloc hN (Ext.refl wr).drew ?_
          intro W1 hR1 hE1 hE2
          refine plan_eff (by rfl) ?_
          intro N hN
          refine wp_append_G _ _ 70 rfl _ 5 (.int .u8 0) 1 1 Tryd.underlying70 (by kernel_rfl) rfl (by decide) (ho.ext hE2) rfl _ rfl rfl hR1.news (by simp [Value.oneCell']) (by simp only [maxLen]; omega) (by omega) (by have := (hE7.trans hE2).size; omega) ?_
          intro v2 w2 ho2 hg2
          refine hN _ w2 w2 (fun h => by cases h) (Ext.refl _) ?_
          simp only [Act.put, List.setIfInBounds_toArray, List.set_cons_zero, List.set_cons_succ]
          repeat (first
            | (refine plan_pure (by rfl) ?_; intro N hN; go_big_quiet_op; go_big_quiet_on)
            | (refine plan_read (by rfl) ?_; intro N hN; go_big_quiet_op; go_big_quiet_on)
            | (refine plan_skip (by rfl) ?_; simp only [Act.put, List.setIfInBounds_toArray, List.set_cons_zero, List.set_cons_succ]))
          refine plan_nil ?_
          go_wp2
          refine ⟨⟨n + 1, by omega, by go_num, ?_, ho.grow (hE7.trans hE2) hg2 (Nat.le_refl _)⟩, by simp [intOf]; omega⟩
          rw [out_succ, vals_append, show 4 * (n + 1) = 4 * n + 4 by omega]
          exact ho2
        · have hn' : n = 8 := by omega
          subst hn'
          obtain ⟨g8, c8, rfl, _⟩ := ho.form (by decide)
          have hcc := ho.bytes rfl
          have hol := Lib.hid (out_length C 8)
          go_wp2_with (refine wpList_bytes_str rfl _ _ _ rfl 5 Tryd.underlying70 Tryd.underlying5 Tryd.underlying9 (out C 8) hol.out rfl hcc (out_good _ _) ?_)
          go_ret
          refine ⟨?_, (hE01.trans hE).trans hE7⟩
          rw [sha_eq, sum_eq, HB.out, hcl.out, Nat.mul_div_cancel_left k (by decide), HC.out]
          rfl

set_option maxRecDepth 100000 in
set_option maxHeartbeats 1000000 in
theorem leaf2_any (s : ByteArray) (hs : s.size ≤ 1000000000) (w : World) : Calls Tryd.prog 43 #[.string s] w fun e w' => e = .returned (.string (leaf s)) ∧ Ext w w' := by
  have h1 : ((⟨#[0]⟩ : ByteArray) ++ s).size ≤ 1099511627776 := by rw [size_one]; omega
  go_enter Tryd.func43, Tryd.ntmps43
  go_wp2_with (go_at_call 44; refine (sum2_any _ h1 _).mono ?_; rintro e w1 ⟨rfl, hE1⟩)
  go_ret
  exact ⟨rfl, hE1⟩

set_option maxRecDepth 100000 in
set_option maxHeartbeats 1000000 in
theorem node2_any (a b : ByteArray) (ha : a.size ≤ 1000000000) (hb : b.size ≤ 1000000000) (w : World) : Calls Tryd.prog 42 #[.string a, .string b] w fun e w' => e = .returned (.string (node a b)) ∧ Ext w w' := by
  have h0 : ((⟨#[1]⟩ : ByteArray) ++ a).size = a.size + 1 := size_one _ _
  have h1 : ((⟨#[1]⟩ : ByteArray) ++ a ++ b).size ≤ 1099511627776 := by rw [ByteArray.size_append, size_one]; omega
  go_enter Tryd.func42, Tryd.ntmps42
  go_wp2_with (go_at_call 44; refine (sum2_any _ h1 _).mono ?_; rintro e w1 ⟨rfl, hE1⟩)
  go_ret
  exact ⟨rfl, hE1⟩
end Go.Proofs.YtjamakapkpkfeaaDoor
