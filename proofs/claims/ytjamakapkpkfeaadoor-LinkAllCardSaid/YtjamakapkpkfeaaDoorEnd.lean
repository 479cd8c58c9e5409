/- An end of a link: how it lies in the heap; opening, sending, and the three numbers. -/
import Derived.Test.YtjamakapkpkfeaaDoorApp2
namespace Go.Proofs.YtjamakapkpkfeaaDoor
open Go.RowKit Go.Shelf Sha

/-- Beside new blocks, at most the blocks of fp have turned. -/
structure Mod (fp : Nat → Prop) (W W' : World) : Prop where
  os : W'.os = W.os
  tape : W'.tape = W.tape
  output : W'.output = W.output
  size : W.heap.size ≤ W'.heap.size
  block : ∀ k, k < W.heap.size → ¬ fp k → W'.heap[k]? = W.heap[k]?

section
variable {fp fq : Nat → Prop} {W W' W3 : World}
theorem Mod.refl (fp : Nat → Prop) (W : World) : Mod fp W W := ⟨rfl, rfl, rfl, Nat.le_refl _, fun _ _ _ => rfl⟩
theorem Mod.trans (h : Mod fp W W') (k : Mod fq W' W3) (hq : ∀ i, fq i → fp i ∨ W.heap.size ≤ i) : Mod fp W W3 :=
  ⟨k.os.trans h.os, k.tape.trans h.tape, k.output.trans h.output, Nat.le_trans h.size k.size, fun i hi hp =>
    (k.block i (Nat.lt_of_lt_of_le hi h.size) (fun e => (hq i e).elim hp (fun e => by omega))).trans (h.block i hi hp)⟩
theorem Mod.of_ext (e : Ext W W') : Mod fp W W' := ⟨Below.os e, Below.tape e, Below.output e, e.size, fun k hk _ => Below.block e k hk⟩
theorem Mod.ext (h : Mod fp W W') (e : Ext W' W3) : Mod fp W W3 := h.trans (Mod.of_ext (fp := fp) e) (fun _ h => .inl h)
theorem Mod.grown (h : Mod fp W W') {r : Option Nat} (hg : W'.grownBy W3 r) (hr : ∀ k, r = some k → fp k ∨ W.heap.size ≤ k) : Mod fp W W3 :=
  h.trans (fq := fun k => r = some k) ⟨hg.os, hg.tape, hg.output, hg.size, fun k hk hp => hg.block k hk (fun e => hp e.symm)⟩ (fun i e => hr i e)
theorem Mod.drew (h : Mod fp W W') : Mod fp W W'.drew := h.ext (Ext.refl _).drew
theorem Mod.mono (h : Mod fp W W') (hq : ∀ k, fp k → fq k) : Mod fq W W' := ⟨h.os, h.tape, h.output, h.size, fun k hk hp => h.block k hk (fun e => hp (hq k e))⟩
theorem Mod.row {b : Nat} {t : TypeId} {l : List Value} (h : Mod fp W W') (hr : Row W b t l) (hb : ¬ fp b) : Row W' b t l := (h.block b hr.lt hb).trans hr
theorem Mod.cell {a : Addr} {v : Value} (h : Mod fp W W') (hc : W.cell? a = some v) (hb : ¬ fp a.block) : W'.cell? a = some v := by
  have hb := h.block a.block (lt_of_cell hc) hb
  unfold World.cell? at hc ⊢
  rw [hb]; exact hc
theorem Mod.own {base : Nat} {e : TypeId} {size : Nat} {v : Value} {n : Nat} {xs : List Value} (h : Mod fp W W') (ho : Own W base e size v n xs) (hb : ∀ k, v.ownBlock = some k → ¬ fp k) : Own W' base e size v n xs := by
  refine ⟨ho.1, ?_⟩
  rcases ho.2 with hn | ⟨g, cap, cur, fz, rfl, hb2, hgg, rest⟩
  · exact .inl hn
  · exact .inr ⟨g, cap, cur, fz, rfl, hb2, (h.block g (Array.getElem?_eq_some_iff.1 hgg).1 (hb g rfl)).trans hgg, rest⟩
theorem Mod.tab (h : Mod fp W W') (ht : Tab W) (h0 : ¬ fp 0) : Tab W' := fun j v hv => h.cell (ht j v hv) h0
end

/-- An end: its keys; what was sent; how much of it is acknowledged; how much was received; early ones; how often one was stored (a bound). -/
structure Lk where
  key : ByteArray
  other : ByteArray
  sent : List ByteArray
  acked : Nat
  got : Nat
  early : Int → Option ByteArray
  ins : Nat
structure Lk.Ok (L : Lk) : Prop where
  key : L.key.size = 32
  other : L.other.size = 32
  sent : L.sent.length ≤ 100
  body : ∀ s ∈ L.sent, s.size ≤ 200
  acked : L.acked ≤ L.sent.length
  got : L.got ≤ 100
  early : ∀ x s, L.early x = some s → (L.got : Int) < x ∧ x ≤ 100 ∧ s.size ≤ 200
  ins : L.ins ≤ 1000000

def Lk.cells (L : Lk) (v : Value) (M : Nat) : List Value := [.string L.key, .string L.other, v, .int .i64 (L.acked : Nat), .int .i64 (L.got : Nat), .map (some M)]
/-- The end L lies at block E; its blocks are of fp. -/
structure EndAt' (W : World) (fp : Nat → Prop) (E : Nat) (L : Lk) (v : Value) (M : Nat) : Prop where
  ok : L.Ok
  row : Row W E 73 (L.cells v M)
  own : Own W 0 9 1 v L.sent.length (L.sent.map Value.string)
  map : Mp W M L.ins L.early
  fpE : fp E
  fpM : fp M
  fpV : ∀ k, v.ownBlock = some k → fp k
  neM : E ≠ M
  neV : ∀ k, v.ownBlock = some k → k ≠ E ∧ k ≠ M
  low : ∀ k, fp k → k < W.heap.size
def EndAt (W : World) (fp : Nat → Prop) (E : Nat) (L : Lk) : Prop := ∃ v M, EndAt' W fp E L v M

theorem EndAt'.mod {W W' : World} {fp fq : Nat → Prop} {E : Nat} {L : Lk} {v : Value} {M : Nat} (h : EndAt' W fp E L v M) (hm : Mod fq W W') (hd : ∀ k, fp k → ¬ fq k) : EndAt' W' fp E L v M :=
  ⟨h.ok, hm.row h.row (hd _ h.fpE), hm.own h.own (fun k hk => hd _ (h.fpV k hk)), h.map.heap (hm.block M h.map.lt (hd _ h.fpM)), h.fpE, h.fpM, h.fpV, h.neM, h.neV, fun k hk => Nat.lt_of_lt_of_le (h.low k hk) hm.size⟩
theorem EndAt.mod {W W' : World} {fp fq : Nat → Prop} {E : Nat} {L : Lk} (h : EndAt W fp E L) (hm : Mod fq W W') (hd : ∀ k, fp k → ¬ fq k) : EndAt W' fp E L := by
  obtain ⟨v, M, h⟩ := h; exact ⟨v, M, h.mod hm hd⟩
theorem EndAt.ext {W W' : World} {fp : Nat → Prop} {E : Nat} {L : Lk} (h : EndAt W fp E L) (e : Ext W W') : EndAt W' fp E L := h.mod (Mod.of_ext (fp := fun _ => False) e) (fun _ _ h => h)

set_option maxHeartbeats 1000000 in
theorem sent_any {w : World} {fp : Nat → Prop} {E : Nat} {L : Lk} (h : EndAt w fp E L) : Calls Tryd.prog 31 #[.pointer (some ⟨E, 0, none⟩)] w fun e w' => e = .returned (.int .i64 (L.sent.length : Nat)) ∧ Ext w w' := by
  obtain ⟨v, M, h⟩ := h
  obtain ⟨p, cap, rfl, _⟩ := h.own.form'
  have hc := h.row.cell 2 (by show 2 < 6; decide)
  clear h
  unfold Lk.cells at hc
  go_enter Tryd.func31, Tryd.ntmps31
  go_wp2
  go_ret
  exact ⟨rfl, Ext.refl _⟩
set_option maxHeartbeats 1000000 in
theorem received_any {w : World} {fp : Nat → Prop} {E : Nat} {L : Lk} (h : EndAt w fp E L) : Calls Tryd.prog 35 #[.pointer (some ⟨E, 0, none⟩)] w fun e w' => e = .returned (.int .i64 (L.got : Nat)) ∧ Ext w w' := by
  obtain ⟨v, M, h⟩ := h
  have hc := h.row.cell 4 (by show 4 < 6; decide)
  clear h
  unfold Lk.cells at hc
  go_enter Tryd.func35, Tryd.ntmps35
  go_wp2
  go_ret
  exact ⟨rfl, Ext.refl _⟩
set_option maxHeartbeats 1000000 in
theorem waiting_any {w : World} {fp : Nat → Prop} {E : Nat} {L : Lk} (h : EndAt w fp E L) : Calls Tryd.prog 33 #[.pointer (some ⟨E, 0, none⟩)] w fun e w' => e = .returned (.int .i64 ((L.sent.length : Int) - L.acked)) ∧ Ext w w' := by
  obtain ⟨v, M, h⟩ := h
  obtain ⟨p, cap, rfl, _⟩ := h.own.form'
  have hl := h.ok.sent
  have ha := h.ok.acked
  have f2 : ∀ u, (wplus w u).cell? ⟨E, 2, none⟩ = some (.slice p L.sent.length cap) := fun u => (h.row.plus u).cell 2 (by show 2 < 6; decide)
  have f3 : ∀ u, (wplus w u).cell? ⟨E, 3, none⟩ = some (.int .i64 (L.acked : Nat)) := fun u => (h.row.plus u).cell 3 (by show 3 < 6; decide)
  clear h
  go_enter Tryd.func33, Tryd.ntmps33
  go_wp2
  refine wp_region_plan [] (.step 0 .pure (.step 1 .pure (.step 2 .pure (.step 3 .read (.step 4 .pure (.step 5 .pure (.step 6 .pure (.step 7 .pure (.step 8 .read (.step 9 .pure (.step 10 .pure (.fin)))))))))))) (by kernel_rfl) (by kernel_rfl) (Ext.refl w) ?_
  simp only [pickOps, List.getD_cons_zero, List.getD_cons_succ]
  repeat (first
    | (refine plan_pure (by rfl) ?_; intro N hN; go_big_quiet_op; go_big_quiet_on)
    | (refine plan_read (by rfl) ?_; intro N hN; go_big_quiet_op; go_big_quiet_on)
    | (refine plan_skip (by rfl) ?_; simp only [Act.put, List.setIfInBounds_toArray, List.set_cons_zero, List.set_cons_succ]))
  refine plan_nil ?_
  go_wp2
  go_ret
  exact ⟨rfl, (Ext.refl _).drew⟩

set_option maxRecDepth 100000 in
set_option maxHeartbeats 1000000 in
theorem open_any (a b : ByteArray) (ha : a.size = 32) (hb : b.size = 32) (w : World) : Calls Tryd.prog 40 #[.string a, .string b] w fun e w' => ∃ E, e = .returned (.tuple #[.pointer (some ⟨E, 0, none⟩), .int .i64 0]) ∧ Ext w w' ∧
    EndAt w' (fun k => w.heap.size ≤ k ∧ k < w'.heap.size) E ⟨a, b, [], 0, 0, fun _ => none, 0⟩ := by
  go_enter Tryd.func40, Tryd.ntmps40
  have hmm := @run_makeMap Tryd.prog
  go_wp2_with (go_at_call 50; refine (isKey_any _ _).mono ?_; rintro e w1 ⟨rfl, hw⟩; subst w1)
  go_ret2
  have hr := Row.new (w.alloc (.map #[] 0)) 73 (Lk.cells ⟨a, b, [], 0, 0, fun _ => none, 0⟩ (.slice none 0 0) w.heap.size)
  rw [World.size_alloc] at hr
  have hm := (Mp.made w).kept (World.grownBy_alloc (w.alloc (.map #[] 0)) (.cells (Lk.cells ⟨a, b, [], 0, 0, fun _ => none, 0⟩ (.slice none 0 0) w.heap.size).toArray 73) none) (by simp)
  refine ⟨_, rfl, ((Ext.refl w).alloc _).alloc _, .slice none 0 0, w.heap.size, ⟨⟨ha, hb, Nat.zero_le _, (by intro s hs; cases hs), Nat.le_refl _, Nat.zero_le _, (by intro x s hs; cases hs), Nat.zero_le _⟩, hr, Own.nil _ _ _ _, hm, ⟨Nat.le_add_right _ _, hr.lt⟩, ⟨Nat.le_refl _, hm.lt⟩, (by intro k hk; cases hk), by omega, (by intro k hk; cases hk), fun k hk => hk.2⟩⟩

namespace Sha
def sendOk (L : Lk) (s : ByteArray) : Prop := s.size ≤ 200 ∧ L.sent.length < 100
instance (L : Lk) (s : ByteArray) : Decidable (sendOk L s) := by unfold sendOk; infer_instance
end Sha
def Lk.send (L : Lk) (s : ByteArray) : Lk := { L with sent := L.sent ++ [s] }
theorem Lk.Ok.send {L : Lk} (h : L.Ok) {s : ByteArray} (hs : sendOk L s) : (L.send s).Ok :=
  ⟨h.key, h.other, by show (L.sent ++ [s]).length ≤ 100; rw [List.length_append]; have := hs.2; show L.sent.length + 1 ≤ 100; omega,
    fun x hx => by rcases List.mem_append.1 hx with hx | hx; exact h.body x hx; rw [List.mem_singleton.1 hx]; exact hs.1,
    by show L.acked ≤ (L.sent ++ [s]).length; rw [List.length_append]; have := h.acked; omega, h.got, h.early, h.ins⟩

set_option maxRecDepth 100000 in
set_option maxHeartbeats 1000000 in
theorem send_any {w : World} {fp : Nat → Prop} {E : Nat} {L : Lk} (h : EndAt w fp E L) (s : ByteArray) (hs : sendOk L s) :
    Calls Tryd.prog 20 #[.pointer (some ⟨E, 0, none⟩), .string s] w fun e w' => e = .returned (.int .i64 0) ∧ Mod fp w w' ∧ ∃ fp', EndAt w' fp' E (L.send s) ∧ ∀ k, fp' k → fp k ∨ w.heap.size ≤ k := by
  obtain ⟨v, M, h⟩ := h
  obtain ⟨p, cap, rfl, hcap⟩ := h.own.form'
  obtain ⟨hs1, hs2⟩ := hs
  have hc := h.row.cell 2 (by show 2 < 6; decide)
  have hf := h.row.frozen 2
  unfold Lk.cells at hc
  have ho := h.own
  go_enter Tryd.func20, Tryd.ntmps20
  go_wp2_with (at_builtin; go_loud (refine wpList_append_G2 rfl _ _ 44 rfl _ 9 (.string ByteArray.empty) 1 16 Tryd.underlying44 (by kernel_rfl) rfl (by decide) (ho.alloc _) rfl [_] rfl rfl (new_cells _ _ _) (by simp [Value.oneCell']) (by skip; simp only [maxLen]; omega) (by skip; omega) (by have := Nat.zero_le w.heap.size; simp at this ⊢ <;> omega) ?_; intro v2 w2 ho2 hg2 hn2; obtain ⟨p2, c2, rfl, hcap2⟩ := ho2.form'; have hr2 := (h.row.alloc (.cells #[.string s] 9)).kept hg2 (fun e => absurd rfl (h.neV E e.symm).1); have hc2 := hr2.cell 2 (by show 2 < 6; decide); have hf2 := hr2.frozen 2))
  go_ret
  have hlt : ∀ k, (Value.slice p L.sent.length cap).ownBlock = some k → k < w.heap.size := fun k hk => h.low k (h.fpV k hk)
  have hgs : w2.grownBy (w2.setCell ⟨E, 2, none⟩ (.slice p2 (L.sent.length + 1) c2)) (some E) := grown_setCell (grown_none (Ext.refl w2) |> fun g => ⟨g.os, g.tape, g.output, g.size, fun k hk _ => rfl⟩) _ _
  have hE2 : E < w2.heap.size := hr2.lt
  have hs3 : (w2.setCell ⟨E, 2, none⟩ (.slice p2 (L.sent.length + 1) c2)).heap.size = w2.heap.size := by simp [World.setCell]
  have hsz : w.heap.size ≤ w2.heap.size := by have := hg2.size; simp at this; omega
  have hV2 : ∀ k, (Value.slice p2 (L.sent.length + 1) c2).ownBlock = some k → k ≠ E ∧ k ≠ M ∧ k < w2.heap.size := by
    intro k hk
    refine ⟨?_, ?_, (ho2.lt k hk).2⟩
    · intro e; rcases hn2 k hk with h1 | h1
      · exact (h.neV k h1).1 e
      · have := h.low E h.fpE; simp at h1; omega
    · intro e; rcases hn2 k hk with h1 | h1
      · exact (h.neV k h1).2 e
      · have := h.low M h.fpM; simp at h1; omega
  refine ⟨rfl, ?_, fun k => fp k ∨ (Value.slice p2 (L.sent.length + 1) c2).ownBlock = some k, ⟨.slice p2 (L.sent.length + 1) c2, M, ⟨h.ok.send ⟨hs1, hs2⟩, hr2.set 2 _, ?_, ?_, .inl h.fpE, .inl h.fpM, fun k hk => .inr hk, h.neM, fun k hk => ⟨(hV2 k hk).1, (hV2 k hk).2.1⟩, ?_⟩⟩, ?_⟩
  · exact ((Mod.of_ext ((Ext.refl w).alloc _)).grown hg2 (fun k hk => .inl (h.fpV k hk))).grown hgs (fun k hk => .inl (by cases hk; exact h.fpE))
  · have := ho2.kept hgs (fun k hk e => (hV2 k hk).1 (Option.some.inj e).symm)
    unfold Lk.send
    rw [List.length_append, List.map_append]
    exact this
  · exact ((h.map.kept (World.grownBy_alloc w _ none) (by simp)).kept hg2 (fun e => (h.neV M e.symm).2 rfl)).kept hgs (fun e => h.neM (Option.some.inj e).symm)
  · rintro k (hk | hk)
    · rw [hs3]; have := h.low k hk; omega
    · rw [hs3]; exact (hV2 k hk).2.2
  · rintro k (hk | hk)
    · exact .inl hk
    · rcases hn2 k hk with h1 | h1
      · exact .inl (h.fpV k h1)
      · exact .inr (by simp at h1; omega)

set_option maxRecDepth 100000 in
set_option maxHeartbeats 1000000 in
theorem send_no {w : World} {fp : Nat → Prop} {E : Nat} {L : Lk} (h : EndAt w fp E L) (s : ByteArray) (hs : ¬ sendOk L s) :
    Calls Tryd.prog 20 #[.pointer (some ⟨E, 0, none⟩), .string s] w fun e w' => e = .returned (.int .i64 410) ∧ Ext w w' := by
  obtain ⟨v, M, h⟩ := h
  obtain ⟨p, cap, rfl, hcap⟩ := h.own.form'
  have hc := h.row.cell 2 (by show 2 < 6; decide)
  unfold Lk.cells at hc
  clear h
  unfold sendOk at hs
  go_enter Tryd.func20, Tryd.ntmps20
  by_cases h1 : s.size ≤ 200
  · have h2 : 100 ≤ L.sent.length := by omega
    go_wp2
    go_ret
    exact ⟨rfl, Ext.refl _⟩
  · have h2 : 200 < s.size := by omega
    go_wp2
    go_ret
    exact ⟨rfl, Ext.refl _⟩

/-! ### No end at all -/
set_option maxHeartbeats 1000000 in
theorem nil_send (s : ByteArray) (w : World) : Calls Tryd.prog 20 #[.pointer none, .string s] w fun e w' => e = .returned (.int .i64 1) ∧ w' = w := by
  go_enter Tryd.func20, Tryd.ntmps20
  go_wp2
  go_ret
  exact ⟨rfl, rfl⟩
set_option maxHeartbeats 1000000 in
theorem nil_out (w : World) : Calls Tryd.prog 22 #[.pointer none] w fun e w' => e = .returned (.slice none 0 0) ∧ w' = w := by
  go_enter Tryd.func22, Tryd.ntmps22
  go_wp2
  go_ret
  exact ⟨rfl, rfl⟩
set_option maxHeartbeats 1000000 in
theorem nil_sent (w : World) : Calls Tryd.prog 31 #[.pointer none] w fun e w' => e = .returned (.int .i64 0) ∧ w' = w := by
  go_enter Tryd.func31, Tryd.ntmps31
  go_wp2
  go_ret
  exact ⟨rfl, rfl⟩
set_option maxHeartbeats 1000000 in
theorem nil_waiting (w : World) : Calls Tryd.prog 33 #[.pointer none] w fun e w' => e = .returned (.int .i64 0) ∧ w' = w := by
  go_enter Tryd.func33, Tryd.ntmps33
  go_wp2
  go_ret
  exact ⟨rfl, rfl⟩
set_option maxHeartbeats 1000000 in
theorem nil_received (w : World) : Calls Tryd.prog 35 #[.pointer none] w fun e w' => e = .returned (.int .i64 0) ∧ w' = w := by
  go_enter Tryd.func35, Tryd.ntmps35
  go_wp2
  go_ret
  exact ⟨rfl, rfl⟩
set_option maxHeartbeats 1000000 in
theorem nil_in (p : Pkt) (w : World) : Calls Tryd.prog 26 #[.pointer none, p.val] w fun e w' => e = .returned (.tuple #[.slice none 0 0, .int .i64 1]) ∧ Ext w w' := by
  go_enter Tryd.func26, Tryd.ntmps26
  unfold Pkt.val Pkt.cells
  go_wp2
  go_ret2
  exact ⟨rfl, (Ext.refl w).alloc _⟩
end Go.Proofs.YtjamakapkpkfeaaDoor
