/- Two ends in one heap: what the calls of their methods make of them. -/
import Derived.Test.YtjamakapkpkfeaaDoorInNo
import Derived.Test.YtjamakapkpkfeaaDoorIn
import Derived.Test.YtjamakapkpkfeaaDoorNet2
namespace Go.Proofs.YtjamakapkpkfeaaDoor
open Go.RowKit Go.Shelf Sha

/-- Both ends lie in W, apart from each other, at or beyond base. -/
structure Two (W : World) (base : Nat) (fp : Nat → Nat → Prop) (E : Nat → Nat) (L : Nat → Lk) : Prop where
  here : ∀ n, n < 2 → EndAt W (fp n) (E n) (L n)
  dis : ∀ k, fp 0 k → ¬ fp 1 k
  low : ∀ n k, n < 2 → fp n k → base ≤ k
theorem Two.apart {W : World} {base : Nat} {fp : Nat → Nat → Prop} {E : Nat → Nat} {L : Nat → Lk} (h : Two W base fp E L) {n m : Nat} (hn : n < 2) (hm : m < 2) (hne : n ≠ m) {k : Nat} (hk : fp n k) : ¬ fp m k := by
  rcases (show (n = 0 ∧ m = 1) ∨ (n = 1 ∧ m = 0) by omega) with ⟨rfl, rfl⟩ | ⟨rfl, rfl⟩
  · exact h.dis k hk
  · exact fun h0 => h.dis k h0 hk
theorem EndAt.lows {W : World} {fp : Nat → Prop} {E : Nat} {L : Lk} (h : EndAt W fp E L) : ∀ k, fp k → k < W.heap.size := by obtain ⟨v, M, h⟩ := h; exact h.low
theorem EndAt.fpE {W : World} {fp : Nat → Prop} {E : Nat} {L : Lk} (h : EndAt W fp E L) : fp E := by obtain ⟨v, M, h⟩ := h; exact h.fpE
theorem EndAt.ok {W : World} {fp : Nat → Prop} {E : Nat} {L : Lk} (h : EndAt W fp E L) : L.Ok := by obtain ⟨v, M, h⟩ := h; exact h.ok

section
variable {W W' W3 : World} {base : Nat} {fp : Nat → Nat → Prop} {E : Nat → Nat} {L : Nat → Lk} {n : Nat}
theorem Two.size (h : Two W base fp E L) : base ≤ W.heap.size := by
  have h0 := (h.here 0 (by omega))
  have := h0.lows _ h0.fpE
  have := h.low 0 _ (by omega) h0.fpE
  omega
theorem Two.ext (h : Two W base fp E L) (e : Ext W W') : Two W' base fp E L := ⟨fun n hn => (h.here n hn).ext e, h.dis, h.low⟩
/-- Blocks that neither end has may turn. -/
theorem Two.other (h : Two W base fp E L) {fq : Nat → Prop} (hm : Mod fq W W') (hq : ∀ n k, n < 2 → fp n k → ¬ fq k) : Two W' base fp E L := ⟨fun n hn => (h.here n hn).mod hm (hq n · hn), h.dis, h.low⟩
theorem Two.set (h : Two W base fp E L) (hn : n < 2) {x : Lk} {fq : Nat → Prop} (hm : Mod (fp n) W W') (he : EndAt W' fq (E n) x) (hf : ∀ k, fq k → fp n k ∨ W.heap.size ≤ k) :
    Two W' base (upd fp n fq) E (upd L n x) := by
  refine ⟨fun m hm' => ?_, ?_, fun m k hm' hk => ?_⟩
  · by_cases hmn : m = n
    · subst hmn; rw [upd_same, upd_same]; exact he
    · rw [upd_ne _ _ hmn, upd_ne _ _ hmn]
      exact (h.here m hm').mod hm (fun k hk => h.apart hm' hn hmn hk)
  · intro k h0 h1
    have aux : ∀ m, m < 2 → m ≠ n → fp m k → ¬ fq k := fun m hm' hne hk hq => by
      rcases hf k hq with h2 | h2
      · exact h.apart hm' hn hne hk h2
      · have := (h.here m hm').lows k hk; omega
    rcases (show n = 0 ∨ n = 1 by omega) with rfl | rfl
    · rw [upd_same] at h0; rw [upd_ne _ _ (by decide)] at h1
      exact aux 1 (by omega) (by decide) h1 h0
    · rw [upd_same] at h1; rw [upd_ne _ _ (by decide)] at h0
      exact aux 0 (by omega) (by decide) h0 h1
  · by_cases hmn : m = n
    · subst hmn
      rw [upd_same] at hk
      rcases hf k hk with h2 | h2
      · exact h.low m k hm' h2
      · have := h.size; omega
    · rw [upd_ne _ _ hmn] at hk
      exact h.low m k hm' hk
theorem Ext.mod {w : World} {fq : Nat → Prop} (h : Ext w W) (hm : Mod fq W W') (hq : ∀ k, fq k → w.heap.size ≤ k) : Ext w W' := by
  have h1 : Mod fq w W := Mod.of_ext h
  have h2 := h1.trans hm (fun k hk => .inl hk)
  exact ⟨h2.os, h2.tape, h2.output, h2.size, fun k hk => h2.block k hk (fun hf => by have := hq k hf; omega)⟩
end

theorem key0_any (w : World) : Calls Tryd.prog 17 #[.int .i64 0] w fun e w' => e = .returned (.string (keyAt 0)) ∧ Ext w w' := key_any 0 ⟨by decide, by decide⟩ w
theorem key1_any (w : World) : Calls Tryd.prog 17 #[.int .i64 1] w fun e w' => e = .returned (.string (keyAt 1)) ∧ Ext w w' := key_any 1 ⟨by decide, by decide⟩ w
theorem keyAt_size (k : Nat) : (keyAt k).size = 32 := sha_size _

set_option maxRecDepth 100000 in
set_option maxHeartbeats 1000000 in
theorem pair_any (w : World) : Calls Tryd.prog 13 #[] w fun e w' => ∃ E fp, e = .returned (.tuple #[.pointer (some ⟨E 0, 0, none⟩), .pointer (some ⟨E 1, 0, none⟩), .bool true]) ∧ Ext w w' ∧ Two w' w.heap.size fp E open0 := by
  have hk0 := keyAt_size 0
  have hk1 := keyAt_size 1
  go_enter Tryd.func13, Tryd.ntmps13
  go_wp2_with (go_at_call 17; with_reducible refine (key0_any _).mono ?_; rintro e w1 ⟨rfl, hE1⟩)
  go_wp2_with (go_at_call 17; with_reducible refine (key1_any _).mono ?_; rintro e w2 ⟨rfl, hE2⟩)
  go_wp2_with (go_at_call 40; with_reducible refine (open_any _ _ hk0 hk1 _).mono ?_; rintro e w3 ⟨EA, rfl, hE3, hA⟩)
  go_wp2_with (go_at_call 17; with_reducible refine (key1_any _).mono ?_; rintro e w4 ⟨rfl, hE4⟩)
  go_wp2_with (go_at_call 17; with_reducible refine (key0_any _).mono ?_; rintro e w5 ⟨rfl, hE5⟩)
  go_wp2_with (go_at_call 40; with_reducible refine (open_any _ _ hk1 hk0 _).mono ?_; rintro e w6 ⟨EB, rfl, hE6, hB⟩)
  go_wp2
  go_ret3
  have hE03 := (hE1.trans hE2).trans hE3
  have hE36 := (hE4.trans hE5).trans hE6
  refine ⟨fun n => if n = 0 then EA else EB, fun n => if n = 0 then (fun k => w2.heap.size ≤ k ∧ k < w3.heap.size) else (fun k => w5.heap.size ≤ k ∧ k < w6.heap.size), rfl, hE03.trans hE36, ⟨?_, ?_, ?_⟩⟩
  · intro n hn
    rcases (show n = 0 ∨ n = 1 by omega) with rfl | rfl
    · exact hA.ext hE36
    · exact hB
  · intro k h0 h1
    have h0 : w2.heap.size ≤ k ∧ k < w3.heap.size := h0
    have h1 : w5.heap.size ≤ k ∧ k < w6.heap.size := h1
    have := (hE4.trans hE5).size
    omega
  · intro n k hn hk
    have e1 := (hE1.trans hE2).size
    have e2 := (hE4.trans hE5).size
    have e3 := hE3.size
    rcases (show n = 0 ∨ n = 1 by omega) with rfl | rfl
    · have hk : w2.heap.size ≤ k ∧ k < w3.heap.size := hk
      omega
    · have hk : w5.heap.size ≤ k ∧ k < w6.heap.size := hk
      omega
end Go.Proofs.YtjamakapkpkfeaaDoor
