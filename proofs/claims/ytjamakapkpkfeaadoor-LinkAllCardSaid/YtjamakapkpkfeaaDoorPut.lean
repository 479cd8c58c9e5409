/- Numbers and strings as they go over the wire: the functions PutInt and PutString of both texts. -/
import Derived.Test.YtjamakapkpkfeaaDoorWire
namespace Go.Proofs.YtjamakapkpkfeaaDoor
open Go.RowKit Go.Shelf Sha
attribute [local go_sem] Oper.semAt_some

theorem wrap_u64 (n : Int) (h0 : 0 ≤ n) (h : n < 2 ^ 64) : IntKind.u64.wrap n = n := by simp [IntKind.wrap, IntKind.bits, IntKind.signed]; omega
theorem wrap_u8 (n : Int) (h0 : 0 ≤ n) (h : n < 2 ^ 8) : IntKind.u8.wrap n = n := by simp [IntKind.wrap, IntKind.bits, IntKind.signed]; omega
theorem zig_walk (n : Nat) (hn : n ≤ 1000000) : bits BinOp.xor IntKind.u64 ((n : Int) * 2) ((n : Int) / 9223372036854775808) = ((2 * n : Nat) : Int) := by
  rw [show (n : Int) / 9223372036854775808 = ((0 : Nat) : Int) by omega, show (n : Int) * 2 = ((2 * n : Nat) : Int) by omega,
    bits_xor_nat .u64 64 (by decide) wrap_u64 _ _ (by omega) (by decide), Nat.xor_zero]
theorem or_high (y : Nat) : bits BinOp.or IntKind.u8 ((y % 128 : Nat) : Int) 128 = ((y % 128 + 128 : Nat) : Int) := by
  have := (bits_nat .u8 8 (by decide) wrap_u8 (y % 128) 128 (by omega) (by decide)).2
  rw [show (128 : Int) = ((128 : Nat) : Int) from rfl, this]
  congr 1
  have h : y % 128 < 2 ^ 7 := Nat.mod_lt _ (by decide)
  have := Nat.two_pow_add_eq_or_of_lt h 1
  rw [Nat.or_comm]
  simpa [Nat.add_comm] using this.symm
/-- The first j bytes of a number. -/
def part (z j : Nat) : List Nat := if j ≤ ngr z then lead z j else leb z
theorem part_zero (z : Nat) : part z 0 = [] := rfl
theorem part_more {z j : Nat} (h : j < ngr z) : part z (j + 1) = part z j ++ [z / 128 ^ j % 128 + 128] := by
  unfold part; rw [if_pos (by omega), if_pos (by omega), lead_succ]; rfl
theorem part_leb (z : Nat) : part z (ngr z + 1) = leb z := by unfold part; rw [if_neg (by omega)]
theorem part_last {z j : Nat} (h : j = ngr z) : part z (j + 1) = part z j ++ [z / 128 ^ j] := by
  subst h; unfold part; rw [if_neg (by omega), if_pos (Nat.le_refl _), leb_eq]

set_option maxRecDepth 100000 in
set_option maxHeartbeats 1000000 in
theorem putint_any (n : Nat) (hn : n ≤ 1000000) (w : World) :
    Calls Tryd.prog 66 #[.int .i64 (n : Nat)] w fun e w' => e = .returned (.tuple #[.string (int n), .int .i64 0]) ∧ Ext w w' := by
  refine (callsIn_wide (n := 0)).1 ?_
  refine callsIn_of_wp_marks Tryd.func66 rfl trivial ?_ rfl
  simp only [Tryd.ntmps66, List.size_toArray, List.length_cons, List.length_nil, Nat.reduceAdd, Nat.reduceSub, Array.replicate_succ, Array.replicate_zero, List.push_toArray, List.append_toArray, List.nil_append, List.cons_append]
  refine wpIn_wide.2 ?_
  have HZ := Lib.hid (zig_walk n hn)
  have hz : 2 * n < 2097152 := by omega
  go_wp2_with (go_at_call 69; fail)
  rw [HZ.out]
  generalize hzz : 2 * n = z at *
  refine (groups_any z _).mono ?_
  rintro e w1 ⟨rfl, hw1⟩
  have hb1 : Row w1 w.heap.size 70 [.slice none 0 0] := by rw [hw1]; exact (Row.new w 70 [.slice none 0 0]).alloc _
  have hb2 : Row w1 (w.heap.size + 1) 97 [.int .u64 (z : Nat)] := by
    have := Row.new (w.alloc (.cells #[.slice none 0 0] 70)) 97 [.int .u64 (z : Nat)]
    rw [World.size_alloc] at this; rw [hw1]; exact this
  have hE1 : Ext w w1 := by rw [hw1]; exact ((Ext.refl w).alloc _).alloc _
  have hs1 : w1.heap.size = w.heap.size + 2 := by rw [hw1]; simp
  have hp2 : (World.alloc w (.cells #[.slice none 0 0] 70)).heap.size = w.heap.size + 1 := by simp
  rw [hp2]
  clear hw1 hp2
  go_wp2
  refine (wpIn_wide (n := 0)).1 ?_
  refine wp_range (gf := 73) (lb := #[.pointer (some ⟨w.heap.size + 1, 0, none⟩)]) rfl (enters_of Tryd.func73 (by kernel_rfl) rfl)
    (groups_seq (w.heap.size + 1) z hz w1 hb2 (fun k => k = w.heap.size + 1) (fun k => k = w.heap.size + 1) rfl rfl) (Ext.refl _)
    (fun k hk => by unfold two; omega) (fun k hk => by omega) (fun _ => rfl)
    (fun j W => (∃ v, Row W w.heap.size 70 [v] ∧ Own W (w.heap.size + 4) 5 1 v j (vals .u8 (part z j))) ∧ Ext w W) (fun _ _ _ => False)
    (fun j A A' r hs hg hr => ⟨by
      obtain ⟨⟨v, h1, h2⟩, _⟩ := hs
      exact ⟨v, h1.kept hg (fun e => by rcases hr _ e.symm with h | h | h <;> omega), h2.kept hg (fun k hk e => by have := (h2.lt k hk).1; rcases hr _ e with h | h | h <;> omega)⟩,
      hs.2.grown hg (fun k e => by rcases hr k e with h | h | h <;> omega)⟩)
    (fun _ _ _ _ _ hs _ _ => hs) ⟨⟨_, hb1, by rw [part_zero]; exact Own.nil _ _ _ _⟩, hE1⟩ ?round ?done ?stop
  case stop => intro D cc j W _ hx; exact hx.elim
  case done =>
    rintro D W ⟨⟨v, hrW, hoW⟩, hEW⟩ hD rfl
    rw [List.length_map, List.length_range, part_leb] at hoW
    rw [hs1] at hD
    have hlen := leb_length z
    have hgl := leb_good hz
    obtain ⟨g, cap, rfl, _⟩ := hoW.form (by omega)
    have hcb := hoW.bytes rfl
    have hc := hrW.cell 0 Nat.zero_lt_one
    have HLEN := Lib.hid hlen
    have HGL := Lib.hid hgl
    clear hlen hgl hoW
    go_wp2_with (refine wpList_bytes_str rfl _ _ _ rfl 5 Tryd.underlying70 Tryd.underlying5 Tryd.underlying9 (leb z) HLEN.out rfl hcb HGL.out ?_)
    refine (bodyPostM_end rfl hD (results_tmp2 rfl _ _ _) ⟨?_, hEW.putObj (by omega) _⟩).1
    rw [← hzz]
    rfl
  case round =>
    rintro l j x W hx ⟨⟨v, hrW, hoW⟩, hEW⟩ hlt
    obtain ⟨hjl, hxe⟩ := List.getElem?_eq_some_iff.1 hx
    simp only [List.length_map, List.length_range] at hjl
    simp only [List.getElem_map, List.getElem_range] at hxe
    subst hxe
    clear hx
    dsimp only
    generalize hy : z / 128 ^ j = y at *
    gi_wp2
    refine ⟨Keeps.refl _ _, fun w₂ hg2 => ?_⟩
    have hr2 : Row w₂ w.heap.size _ _ := hrW.kept hg2 (fun e => by have := Option.some.inj e; omega)
    have ho2 : Own w₂ (w.heap.size + 4) _ _ _ _ _ := hoW.kept hg2 (fun k hk e => by have := (hoW.lt k hk).1; have := Option.some.inj e; omega)
    have hE2 : Ext w w₂ := hEW.grown hg2 (fun k e => by have := Option.some.inj e; omega)
    have hsz2 : w.heap.size + 4 ≤ w₂.heap.size := by have := hg2.size; omega
    have hk2 : Keeps (fun k => k = w.heap.size + 1) W w₂ := (Keeps.refl _ _).grown hg2 (fun k e h => by have := Option.some.inj e; omega)
    have hc2 := hr2.cell 0 Nat.zero_lt_one
    have hj3 : j ≤ 2 := by have := ngr_le z; omega
    have fin : ∀ (c : Int) (b : Nat) (p3 : Option Addr) (c3 : Nat) (w3 : World), c = (b : Int) → Own w3 (w.heap.size + 4) 5 1 (.slice p3 (j + 1) c3) (j + 1) (vals .u8 (part z j) ++ [.int .u8 c]) → part z (j + 1) = part z j ++ [b] → (w₂.alloc (.cells #[.int .u8 c] 5)).grownBy w3 v.ownBlock →
        Keeps (two w1.heap.size) w₂ (w3.setCell ⟨w.heap.size, 0, none⟩ (.slice p3 (j + 1) c3)) ∧ Keeps (fun k => k = w.heap.size + 1) W (w3.setCell ⟨w.heap.size, 0, none⟩ (.slice p3 (j + 1) c3)) ∧
        (∃ v, Row (w3.setCell ⟨w.heap.size, 0, none⟩ (.slice p3 (j + 1) c3)) w.heap.size 70 [v] ∧ Own (w3.setCell ⟨w.heap.size, 0, none⟩ (.slice p3 (j + 1) c3)) (w.heap.size + 4) 5 1 v (j + 1) (vals .u8 (part z (j + 1)))) ∧ Ext w (w3.setCell ⟨w.heap.size, 0, none⟩ (.slice p3 (j + 1) c3)) := by
      intro c b p3 c3 w3 hc ho3 hp hg3
      subst hc
      have hr3 := ho2.row (hr2.alloc (.cells #[.int .u8 (b : Nat)] 5)) hg3 (by omega)
      have hgs := grownBy_setCell' w3 w.heap.size (.slice p3 (j + 1) c3)
      refine ⟨(((Keeps.refl _ _).alloc _).grown hg3 (fun k e h => by have := (ho2.lt k e).1; rcases h with h | h <;> omega)).grown hgs (fun k e h => by have := Option.some.inj e; rcases h with h | h <;> omega), ?_, ⟨_, hr3.set 0 _, ?_⟩, ?_⟩
      · exact ((hk2.alloc _).grown hg3 (fun k e h => by have := (ho2.lt k e).1; omega)).grown hgs (fun k e h => by have := Option.some.inj e; omega)
      · rw [hp, vals_append]
        exact ho3.kept hgs (fun k hk e => by have := (ho3.lt k hk).1; have := Option.some.inj e; omega)
      · exact (ho2.grow (hE2.alloc _) hg3 (by omega)).grown hgs (fun k e => by have := Option.some.inj e; omega)
    by_cases hl : y < 128
    · have hl' : (y : Int) < 128 := by omega
      gi_wp2_with (gi_at_builtin; go_loud (refine wpListIn_append_G rfl _ _ 70 rfl _ 5 (.int .u8 0) 1 1 Tryd.underlying70 (by kernel_rfl) rfl (by decide) (ho2.alloc _) rfl [_] rfl rfl (new_cells _ _ _) (by simp [Value.oneCell']) (by skip; simp only [maxLen]; omega) (by skip; omega) (by have := hsz2; simp at this ⊢ <;> omega) ?_; intro v3 w3 ho3 hg3; have hr3 := ho2.row (hr2.alloc _) hg3 (by omega); have hc3 := hr3.cell 0 Nat.zero_lt_one; have hf3 := hr3.frozen 0; obtain ⟨p3, c3, rfl, _⟩ := ho3.form'))
      have hjn : j = ngr z := by
        rcases Nat.lt_or_ge j (ngr z) with h | h
        · have := ngr_more h; omega
        · omega
      exact fin _ y p3 c3 w3 (by omega) ho3 (by rw [← hy]; exact part_last hjn) hg3
    · have hjn : j < ngr z := by
        rcases Nat.lt_or_ge j (ngr z) with h | h
        · exact h
        · have h1 : j = ngr z := by omega
          have := ngr_last hz; rw [← h1] at this; omega
      gi_wp2_with (gi_at_builtin; go_loud (refine wpListIn_append_G rfl _ _ 70 rfl _ 5 (.int .u8 0) 1 1 Tryd.underlying70 (by kernel_rfl) rfl (by decide) (ho2.alloc _) rfl [_] rfl rfl (new_cells _ _ _) (by simp [Value.oneCell']) (by skip; simp only [maxLen]; omega) (by skip; omega) (by have := hsz2; simp at this ⊢ <;> omega) ?_; intro v3 w3 ho3 hg3; have hr3 := ho2.row (hr2.alloc _) hg3 (by omega); have hc3 := hr3.cell 0 Nat.zero_lt_one; have hf3 := hr3.frozen 0; obtain ⟨p3, c3, rfl, _⟩ := ho3.form'))
      exact fin _ (y % 128 + 128) p3 c3 w3 (by rw [← or_high]; rfl) ho3 (by rw [← hy]; exact part_more hjn) hg3

set_option maxHeartbeats 1000000 in
theorem zigzag_any (n : Nat) (hn : n ≤ 1000000) (w : World) : Calls Tryd.prog 68 #[.int .i64 (n : Nat)] w fun e w' => e = .returned (.int .u64 ((2 * n : Nat) : Int)) ∧ w' = w := by
  go_enter Tryd.func68, Tryd.ntmps68
  go_wp2
  go_ret
  refine ⟨?_, rfl⟩
  show Ending.returned (Value.int IntKind.u64 ((n : Int) * 2)) = _
  rw [show (n : Int) * 2 = ((2 * n : Nat) : Int) by omega]

set_option maxRecDepth 100000 in
set_option maxHeartbeats 1000000 in
theorem putint2_any (n : Nat) (hn : n ≤ 1000000) (w : World) :
    Calls Tryd.prog 62 #[.int .i64 (n : Nat)] w fun e w' => e = .returned (.tuple #[.string (int n), .int .i64 0]) ∧ Ext w w' := by
  have hz : 2 * n < 2097152 := by omega
  go_enter Tryd.func62, Tryd.ntmps62
  go_wp2_with (go_at_call 68; refine (zigzag_any n hn _).mono ?_; rintro e w' ⟨rfl, hw⟩; subst w')
  generalize hzz : 2 * n = z at *
  go_loopw [4, 5] (fun u v wr => ∃ k : Nat, k ≤ ngr z ∧ u = .int .u64 ((z / 128 ^ k : Nat) : Int) ∧ Own wr w.heap.size 5 1 v k (vals .u8 (lead z k)) ∧ Ext w wr) (fun u _ _ => (intOf u).toNat)
  case atStart => exact ⟨0, Nat.zero_le _, by simp; omega, by rw [lead_zero]; exact Own.nil _ _ _ _, Ext.refl _⟩
  case round =>
    obtain ⟨k, hk, rfl, ho, hE⟩ := hrel
    obtain ⟨p, cap, rfl, hcap⟩ := ho.form'
    have hk3 : k ≤ 2 := by have := ngr_le z; omega
    have hy2 : z / 128 ^ k < 2097152 := Nat.lt_of_le_of_lt (Nat.div_le_self _ _) hz
    generalize hy : z / 128 ^ k = y at *
    by_cases hl : y < 128
    · have hkn : k = ngr z := by
        rcases Nat.lt_or_ge k (ngr z) with h | h
        · have := ngr_more h; omega
        · omega
      have hl' : (y : Int) < 128 := by omega
      go_wp2_with (first
        | (at_builtin; go_loud (refine wpList_append_G rfl _ _ 70 rfl _ 5 (.int .u8 0) 1 1 Tryd.underlying70 (by kernel_rfl) rfl (by decide) (ho.alloc _) rfl [_] rfl rfl (new_cells _ _ _) (by simp [Value.oneCell']) (by skip; simp only [maxLen]; omega) (by skip; omega) (by have := hE.size; simp at this ⊢ <;> omega) ?_; intro v2 w2 ho2 hg2; obtain ⟨g2, c2, rfl, _⟩ := ho2.form (by omega); have hleb : Own w2 w.heap.size 5 1 (.slice (some ⟨g2, 0, none⟩) (k + 1) c2) (k + 1) (vals .u8 (leb z)) := by rw [leb_eq, ← hkn, hy, vals_append]; exact ho2))
        | refine wpList_bytes_str rfl _ _ _ rfl 5 Tryd.underlying70 Tryd.underlying5 Tryd.underlying9 (leb z) (by rw [leb_length, hkn]) rfl (hleb.bytes rfl) (leb_good hz) ?_)
      go_ret2
      refine ⟨?_, ho.grow (hE.alloc _) hg2 (Nat.le_refl _)⟩
      rw [← hzz]
      rfl
    · have hkn : k < ngr z := by
        rcases Nat.lt_or_ge k (ngr z) with h | h
        · exact h
        · have h1 : k = ngr z := by omega
          have := ngr_last hz; rw [← h1] at this; omega
      go_wp2_with (at_builtin; go_loud (refine wpList_append_G rfl _ _ 70 rfl _ 5 (.int .u8 0) 1 1 Tryd.underlying70 (by kernel_rfl) rfl (by decide) (ho.alloc _) rfl [_] rfl rfl (new_cells _ _ _) (by simp [Value.oneCell']) (by skip; simp only [maxLen]; omega) (by skip; omega) (by have := hE.size; simp at this ⊢ <;> omega) ?_; intro v2 w2 ho2 hg2))
      go_roundw
      case rel =>
        refine ⟨k + 1, hkn, ?_, ?_, ho.grow (hE.alloc _) hg2 (Nat.le_refl _)⟩
        · rw [← div_step, hy]; congr 1
        · rw [lead_succ, vals_append, show cont z k = y % 128 + 128 by unfold cont; rw [hy]]
          exact ho2
      case measure => simp [intOf]; omega

set_option maxRecDepth 100000 in
set_option maxHeartbeats 1000000 in
theorem putstring_any (s : ByteArray) (hs : s.size ≤ 60000) (w : World) :
    Calls Tryd.prog 57 #[.string s] w fun e w' => e = .returned (.tuple #[.string (puts s), .int .i64 0]) ∧ Ext w w' := by
  have hi := int_size s.size
  go_enter Tryd.func57, Tryd.ntmps57
  go_wp2_with (go_at_call 66; refine (putint_any s.size (by omega) _).mono ?_; rintro e w1 ⟨rfl, hE1⟩)
  go_ret2
  exact ⟨rfl, hE1⟩

set_option maxRecDepth 100000 in
set_option maxHeartbeats 1000000 in
theorem putstring2_any (s : ByteArray) (hs : s.size ≤ 60000) (w : World) :
    Calls Tryd.prog 63 #[.string s] w fun e w' => e = .returned (.tuple #[.string (puts s), .int .i64 0]) ∧ Ext w w' := by
  have hi := int_size s.size
  go_enter Tryd.func63, Tryd.ntmps63
  go_wp2_with (go_at_call 62; refine (putint2_any s.size (by omega) _).mono ?_; rintro e w1 ⟨rfl, hE1⟩)
  go_ret2
  exact ⟨rfl, hE1⟩

namespace Sha
/-- The texts of the first k numbers. -/
def cat (ns : List Nat) : Nat → ByteArray
  | 0 => ⟨#[]⟩
  | k + 1 => cat ns k ++ int (at_ ns k)
end Sha
theorem cat_size (ns : List Nat) : ∀ k, (cat ns k).size ≤ 3 * k
  | 0 => Nat.le_refl _
  | k + 1 => by
    show (cat ns k ++ int (at_ ns k)).size ≤ _
    rw [ByteArray.size_append]
    have := cat_size ns k
    have := int_size (at_ ns k)
    omega

set_option maxRecDepth 100000 in
set_option maxHeartbeats 1000000 in
theorem put_any (b c : Nat) (ns : List Nat) (hl : ns.length ≤ 10) (hns : ∀ j, j < ns.length → at_ ns j ≤ 1000000) (w : World) (hc : Cells w b 0 .i64 ns) :
    Calls Tryd.prog 60 #[.slice (some ⟨b, 0, none⟩) ns.length c] w fun e w' => e = .returned (.string (cat ns ns.length)) ∧ Ext w w' := by
  have HN := Lib.hid hns
  clear hns
  go_enter Tryd.func60, Tryd.ntmps60
  go_wp2
  go_loopw [3, 10] (fun v i wr => ∃ k : Nat, k ≤ ns.length ∧ i = .int .i64 k ∧ v = .string (cat ns k) ∧ Ext w wr) (fun _ i _ => ns.length - (intOf i).toNat)
  case atStart => exact ⟨0, Nat.zero_le _, rfl, rfl, Ext.refl _⟩
  case round =>
    obtain ⟨k, hk, rfl, rfl, hE⟩ := hrel
    by_cases hlt : k < ns.length
    · have hck : wr.cell? ⟨b, k, none⟩ = some (.int .i64 (at_ ns k : Nat)) := by have := (hc.ext hE) k hlt; rwa [Nat.zero_add] at this
      have hsz := cat_size ns k
      have hsi := int_size (at_ ns k)
      have HNk := Lib.hid (HN.out k hlt)
      go_wp2_with (go_at_call 66; refine (putint_any _ HNk.out _).mono ?_; rintro e w1 ⟨rfl, hE1⟩)
      go_roundw
      case rel => exact ⟨k + 1, by omega, by go_num, rfl, hE.trans hE1⟩
      case measure => simp [intOf]; omega
    · have hk' : k = ns.length := by omega
      subst hk'
      go_wp2
      go_ret
      exact ⟨rfl, hE⟩
end Go.Proofs.YtjamakapkpkfeaaDoor
