/- The digest of a string: contract of the function Sum. -/
import Derived.Test.YtjamakapkpkfeaaDoorChunk
namespace Go.Proofs.YtjamakapkpkfeaaDoor
open Go.RowKit Go.Shelf Sha
attribute [local go_sem] Oper.semAt_some

theorem block_length (h b : List Nat) : (block h b).length = 8 := by rw [block_eq]; exact sums_length _ _ _
theorem chunks_length (b : List Nat) (n : Nat) : (chunks Sha.start b n).length = 8 := by
  cases n with
  | zero => rw [chunks_zero]; rfl
  | succ n => rw [chunks_succ]; exact block_length _ _
theorem sums_good (h v : List Nat) : ∀ n, Good (sums h v n) 4294967296
  | 0 => by rw [sums_zero]; intro j hj; cases hj
  | n + 1 => by
    rw [sums_succ]
    refine good_append (sums_good h v n) ?_
    rw [good_iff]; intro x hx
    rw [List.mem_singleton.1 hx]
    exact Nat.mod_lt _ (by decide)
theorem chunks_good (b : List Nat) (n : Nat) : Good (chunks Sha.start b n) 4294967296 := by
  cases n with
  | zero => rw [chunks_zero]; rw [good_iff]; decide
  | succ n => rw [chunks_succ, block_eq]; exact sums_good _ _ _
theorem Tab.pos {w : World} (h : Tab w) : 0 < w.heap.size := lt_of_cell (h 0 _ (vals_at _ _ 0 (by rw [consts_length]; decide)))
/-- What comes ahead of the zeros. -/
def head (s : ByteArray) : List Nat := nats s ++ [128]
theorem head_length (s : ByteArray) : (head s).length = s.size + 1 := by unfold head; rw [List.length_append, nats_length]; rfl
theorem pad_eq (s : ByteArray) : padded (nats s) = head s ++ List.replicate (zeros s.size) 0 ++ tail s.size := by unfold padded head; rw [nats_length]
theorem tail_take (n j : Nat) (hj : j < 8) : (tail n).take (j + 1) = (tail n).take j ++ [lenByte n (7 - j)] := by
  rcases (show j = 0 ∨ j = 1 ∨ j = 2 ∨ j = 3 ∨ j = 4 ∨ j = 5 ∨ j = 6 ∨ j = 7 by omega) with rfl | rfl | rfl | rfl | rfl | rfl | rfl | rfl <;> rfl
theorem pad_length (s : ByteArray) : ∃ c, (padded (nats s)).length = 64 * c ∧ 64 * c ≤ s.size + 73 := by
  refine ⟨(s.size + 73 - (s.size + 9 - 1) % 64 - 1) / 64, ?_⟩
  rw [pad_eq]
  simp only [List.length_append, head_length, List.length_replicate, zeros, show (tail s.size).length = 8 from rfl]
  omega
theorem lenByte_lt (n i : Nat) : lenByte n i < 256 := Nat.mod_lt _ (by decide)
theorem good_padded (s : ByteArray) : Good (padded (nats s)) 256 := by
  rw [pad_eq]
  refine good_append (good_append (good_append (good_nats s) ?_) ?_) ?_
  · rw [good_iff]; intro x hx; simp at hx; omega
  · rw [good_iff]; intro x hx; have := (List.mem_replicate.1 hx).2; omega
  · rw [good_iff]; intro x hx
    simp only [tail, List.mem_cons, List.not_mem_nil, or_false] at hx
    rcases hx with rfl | rfl | rfl | rfl | rfl | rfl | rfl | rfl <;> exact lenByte_lt _ _

set_option maxRecDepth 100000 in
set_option maxHeartbeats 1000000 in
theorem sum_any (s : ByteArray) (hs : s.size ≤ 1099511627776) (w : World) (ht : Tab w) :
    Calls Tryd.prog 71 #[.string s] w fun e w' => e = .returned (.string (sha s)) ∧ Ext w w' := by
  refine (callsIn_wide (n := 0)).1 ?_
  refine callsIn_of_wp_marks Tryd.func71 rfl trivial ?_ rfl
  simp only [Tryd.ntmps71, List.size_toArray, List.length_cons, List.length_nil, Nat.reduceAdd, Nat.reduceSub, Array.replicate_succ, Array.replicate_zero, List.push_toArray, List.append_toArray, List.nil_append, List.cons_append]
  refine wpIn_wide.2 ?_
  have HS := Lib.hid hs
  have hsm : s.size ≤ maxLen := by simp only [maxLen]; omega
  clear hs
  have hrh0 := Row.new w 105 (vals .u32 Sha.start)
  have hEh0 := (Ext.refl w).alloc (.cells (vals .u32 Sha.start).toArray 105)
  have hz0 : (w.alloc (.cells (vals .u32 Sha.start).toArray 105)).heap.size = w.heap.size + 1 := World.size_alloc _ _
  go_wp2_with (first
    | (refine wpList_str_own rfl 9 70 _ rfl 5 Tryd.underlying9 Tryd.underlying70 Tryd.underlying5 rfl hsm ?_; intro v1 w1 ho1 hE1)
    | (at_builtin; go_loud (refine wpList_append_G rfl _ _ 70 rfl _ 5 (.int .u8 0) 1 1 Tryd.underlying70 (by kernel_rfl) rfl (by decide) (ho1.alloc _) rfl [.int .u8 128] rfl rfl (cell_one_new _ _ _) (by simp [Value.oneCell']) (by have := HS.out; simp only [maxLen]; omega) (by have := HS.out; omega) (by have := hE1.size; simp at this ⊢; omega) ?_; intro v2 w2 ho2 hg2)))
  have hE2 : Ext w w2 := ho1.grow ((hEh0.trans hE1).alloc _) hg2 (by simp)
  have hrh2 : Row w2 w.heap.size 105 (vals .u32 Sha.start) := ho1.row ((hrh0.ext hE1).alloc _) hg2 (by simp)
  have ho3 : Own w2 (w.heap.size + 1) 5 1 v2 (s.size + 1 + 0) (vals .u8 (head s ++ List.replicate 0 0)) := by
    have := ho2
    rw [World.size_alloc] at this
    simpa [head, vals] using this
  clear ho1 hE1 hg2 ho2 hrh0 hEh0 hz0
  go_loopw [4] (fun v wr => ∃ k : Nat, k ≤ zeros s.size ∧ Own wr (w.heap.size + 1) 5 1 v (s.size + 1 + k) (vals .u8 (head s ++ List.replicate k 0)) ∧ Row wr w.heap.size 105 (vals .u32 Sha.start) ∧ Ext w wr) (fun v _ => s.size + 1 + zeros s.size - lenV v)
  case atStart => exact ⟨0, Nat.zero_le _, ho3, hrh2, hE2⟩
  case round =>
    clear ho3 hrh2 hE2
    obtain ⟨k, hk, ho, hrh, hE⟩ := hrel
    obtain ⟨p, cap, rfl, hcap⟩ := ho.form'
    have hk2 : k < 64 := by unfold zeros at hk; omega
    have hsz := HS.out
    by_cases hlt : k < zeros s.size
    · have hmod : (s.size + 1 + k) % 64 ≠ 56 := by unfold zeros at hlt; omega
      go_wp2_with ((at_builtin; go_loud (refine wpList_append_G rfl _ _ 70 rfl _ 5 (.int .u8 0) 1 1 Tryd.underlying70 (by kernel_rfl) rfl (by decide) (ho.alloc _) rfl [.int .u8 0] rfl rfl (cell_one_new _ _ _) (by simp [Value.oneCell']) (by skip; simp only [maxLen]; omega) (by skip; omega) (by have := hE.size; simp at this ⊢; omega) ?_; intro v2 w2 ho2 hg2)))
      have hE2 : Ext w w2 := ho.grow (hE.alloc _) hg2 (by omega)
      refine ⟨⟨k + 1, by omega, ?_, ho.row (hrh.alloc _) hg2 (by omega), hE2⟩, by simp [ho2.lenV, lenV_slice]; omega⟩
      rw [List.replicate_succ', ← List.append_assoc, vals_append]
      exact ho2
    · have hmod : (s.size + 1 + k) % 64 = 56 := by unfold zeros at hlt hk; omega
      have hkz : k = zeros s.size := by omega
      subst hkz
      go_wp2
      have hb : (((s.size : Int) + 1 + (zeros s.size : Int)) % 64 != 56) = false := by simp; omega
      simp only [hb]
      clear hb hmod hk hlt hcap
      have ho4 : Own wr (w.heap.size + 1) 5 1 (.slice p (s.size + 1 + zeros s.size) cap) (s.size + 1 + zeros s.size + 0) (vals .u8 (head s ++ List.replicate (zeros s.size) 0 ++ (tail s.size).take 0)) := by
        rw [show (tail s.size).take 0 = [] from rfl, List.append_nil]; exact ho
      clear ho
      obtain ⟨w3, hw3⟩ : ∃ w3, w3 = wr := ⟨_, rfl⟩
      rw [← hw3] at hrh hE ho4 ⊢
      clear hw3
      go_loopw [4, 5] (fun v i wr => ∃ j : Nat, j ≤ 8 ∧ i = .int .i64 (7 - (j : Int)) ∧ Own wr (w.heap.size + 1) 5 1 v (s.size + 1 + zeros s.size + j) (vals .u8 (head s ++ List.replicate (zeros s.size) 0 ++ (tail s.size).take j)) ∧ Row wr w.heap.size 105 (vals .u32 Sha.start) ∧ Ext w wr) (fun v _ _ => s.size + 1 + zeros s.size + 8 - lenV v)
      case atStart => exact ⟨0, Nat.zero_le _, rfl, ho4, hrh, hE⟩
      case round =>
        clear ho4 hrh hE
        obtain ⟨j, hj, rfl, ho, hrh, hE⟩ := hrel
        obtain ⟨p, cap, rfl, hcap⟩ := ho.form'
        by_cases hlt : j < 8
        · go_wp2_with ((at_builtin; go_loud (refine wpList_append_G rfl _ _ 70 rfl _ 5 (.int .u8 0) 1 1 Tryd.underlying70 (by kernel_rfl) rfl (by decide) (ho.alloc _) rfl [.int .u8 (lenByte s.size (7 - j) : Nat)] rfl rfl (cell_one_new _ _ _) (by simp [Value.oneCell']) (by skip; simp only [maxLen]; omega) (by skip; omega) (by have := hE.size; simp at this ⊢; omega) ?_; intro v2 w2 ho2 hg2)))
          have hE2 : Ext w w2 := ho.grow (hE.alloc _) hg2 (by omega)
          go_roundw
          case rel =>
            refine ⟨j + 1, by omega, by go_num, ?_, ho.row (hrh.alloc _) hg2 (by omega), hE2⟩
            rw [tail_take _ _ hlt, ← List.append_assoc, vals_append]
            exact ho2
          case measure => simp [ho2.lenV, lenV_slice]; omega
        · have hj8 : j = 8 := by omega
          subst hj8
          obtain ⟨c, hc, hc2⟩ := pad_length s
          have hpl : (s.size + 1 + zeros s.size + 8) = 64 * c := by
            rw [← hc, pad_eq]; simp only [List.length_append, head_length, List.length_replicate, show (tail s.size).length = 8 from rfl]
          have hpe : head s ++ List.replicate (zeros s.size) 0 ++ (tail s.size).take 8 = padded (nats s) := by rw [pad_eq]; rfl
          rw [hpe, hpl] at ho
          rw [hpl] at hcap ⊢
          obtain ⟨g, cap', hv, hgb, hgl, _⟩ := ho.form (by omega)
          cases hv
          have hcel : Cells wr g 0 .u8 (padded (nats s)) := ho.bytes rfl
          clear ho hlt hpe hpl
          go_wp2_with (go_at_call 74; refine (chunk_any _ _ _ _).mono ?_; rintro e w5 ⟨B1, B2, rfl, hE5, hB1, hB1l, hB2, hB2l, hb1, hb2⟩)
          have hrh5 := hrh.ext hE5
          have hcel5 := hcel.ext hE5
          have hE6 := hE.trans hE5
          have hgl5 : g < wr.heap.size := hgl
          have hwl := hE.size
          have hhl := hrh.lt
          have h5l := hE5.size
          have ht5 := ht.ext hE6
          have ht0 := ht.pos
          have hgood := Lib.hid (good_padded s)
          have hcl := Lib.hid hc
          clear hrh hcel hE hgl hE5 hc
          generalize hB : padded (nats s) = B at *
          have HB := Lib.hid hB
          clear hB
          refine (wpIn_wide (n := 0)).1 ?_
          refine wp_range (gf := 80) (lb := #[.pointer (some ⟨B1, 0, none⟩), .pointer (some ⟨B2, 0, none⟩)]) rfl (enters_of Tryd.func80 (by kernel_rfl) rfl)
            (chunk_seq g c cap B1 B2 hcap (by omega) w5 hb1 hb2 (fun k => k ≠ w.heap.size ∧ ¬ two w5.heap.size k) (fun _ => False) ⟨by omega, by unfold two; omega⟩ ⟨by omega, by unfold two; omega⟩) (Ext.refl _)
            (fun k hk => hk.2) (fun k hk => hk.elim) (fun _ => rfl)
            (fun j W => Row W w.heap.size 105 (vals .u32 (chunks Sha.start B j)) ∧ Cells W g 0 .u8 B ∧ Ext w W) (fun _ _ _ => False)
            (fun j A A' r hs hg hr => ⟨hs.1.kept hg (fun e => by rcases hr _ e.symm with h | h | h <;> first | exact h.elim | omega), hs.2.1.kept hg (fun e => by rcases hr _ e.symm with h | h | h <;> first | exact h.elim | omega), hs.2.2.grown hg (fun k e => by rcases hr k e with h | h | h <;> first | exact h.elim | omega)⟩)
            (fun _ _ _ _ _ hs _ _ => hs) ⟨by rw [chunks_zero]; exact hrh5, hcel5, hE6⟩ ?round ?done ?stop
          case stop => intro D cc j W _ hx; exact hx.elim
          case done =>
            rintro D W ⟨hrW, _, hEW⟩ hD rfl
            go_wp2_with (first
              | (refine wpList_load_row rfl 105 _ rfl hrW rfl _ Tryd.underlying105 rfl (by rw [vals_length, chunks_length]; kernel_rfl) ?_)
              | (go_at_call 76; refine (digest_any _ (chunks_length _ _) _).mono ?_; rintro e w7 ⟨rfl, hE7⟩))
            have hD7 := hE7.heap hD
            refine (bodyPostM_end rfl hD7 (results_tmp rfl _ _ _) ⟨?_, (hEW.trans hE7).putObj (by omega) _⟩).1
            rw [sha_eq, sum_eq, HB.out, hcl.out, Nat.mul_div_cancel_left c (by decide)]
            rfl
          case round =>
            rintro l j x W hx ⟨hrW, hcW, hEW⟩ hlt
            obtain ⟨hjc, hxj⟩ := List.getElem?_eq_some_iff.1 hx
            rw [List.getElem_range] at hxj
            subst hxj
            rw [List.length_range] at hjc
            gi_wp2
            refine ⟨Keeps.refl _ _, fun w₂ hg2 => ?_⟩
            have hr2 : Row w₂ w.heap.size _ _ := hrW.kept hg2 (fun e => by have := Option.some.inj e; omega)
            have hc2 : Cells w₂ g 0 .u8 B := hcW.kept hg2 (fun e => by have := Option.some.inj e; omega)
            have hE2 : Ext w w₂ := hEW.grown hg2 (fun k e => by have := Option.some.inj e; omega)
            have hbl : ((B.drop (64 * j)).take 64).length = 64 := by rw [List.length_take, List.length_drop, hcl.out]; omega
            have hbg : Good ((B.drop (64 * j)).take 64) 256 := by
              rw [good_iff]; intro x hx; exact good_iff.1 hgood.out x (List.mem_of_mem_drop (List.mem_of_mem_take hx))
            have hbc : Cells w₂ g (64 * j) .u8 ((B.drop (64 * j)).take 64) := by
              intro i hi
              rw [hbl] at hi
              have := hc2 (64 * j + i) (by rw [hcl.out]; omega)
              rw [Nat.zero_add] at this
              rw [this, at_take hi]
              simp [at_, List.getD_eq_getElem?_getD]
            have HBL := Lib.hid hbl
            have HBG := Lib.hid hbg
            clear hbl hbg
            generalize hbs : (B.drop (64 * j)).take 64 = bs at *
            have HBS := Lib.hid hbs
            clear hbs
            gi_wp2
            refine ⟨trivial, rfl, (CallsIn.inRound l (callsIn_wide.2 (add_any _ _ (chunks_length _ _) (chunks_good _ _) _ _ _ _ HBL.out HBG.out _ hr2 hbc (ht.ext hE2)))).mono ?_⟩
            rintro e w3 ⟨⟨v, rfl⟩, hr3, hg3⟩
            gi_wp2
            refine ⟨(Keeps.refl _ _).grown hg3 (fun k e h => by have := Option.some.inj e; rcases h with h | h <;> omega), ((Keeps.refl _ _).grown hg2 (fun k e h => by have := Option.some.inj e; exact h.2 (.inr this.symm))).grown hg3 (fun k e h => by have := Option.some.inj e; exact h.1 this.symm), ?_, hc2.kept hg3 (fun e => by have := Option.some.inj e; omega), hE2.grown hg3 (fun k e => by have := Option.some.inj e; omega)⟩
            rw [chunks_succ, HBS.out]
            exact hr3
end Go.Proofs.YtjamakapkpkfeaaDoor
