/- Packets are collected: contracts of packets, AppendSeq and Collect. -/
import Derived.Test.YtjamakapkpkfeaaDoorPack
namespace Go.Proofs.YtjamakapkpkfeaaDoor
open Go.RowKit Go.Shelf Sha
attribute [local go_sem] Oper.semAt_some

set_option maxHeartbeats 1000000 in
theorem packets_any (E : Nat) (w : World) :
    Calls Tryd.prog 47 #[.pointer (some ⟨E, 0, none⟩)] w fun e w' => e = .returned (.func (.func 56) #[] #[.pointer (some ⟨w.heap.size, 0, none⟩)]) ∧ w' = w.alloc (.cells #[.pointer (some ⟨E, 0, none⟩)] 25) := by
  go_enter Tryd.func47, Tryd.ntmps47
  go_wp2
  go_ret
  exact ⟨rfl, rfl⟩

/-- The cells of packets, one after the other. -/
def pcells (l : List Pkt) : List Value := l.flatMap Pkt.cells
theorem pcells_length (l : List Pkt) : (pcells l).length = l.length * 4 := by
  induction l with
  | nil => rfl
  | cons x l ih => unfold pcells at *; rw [List.flatMap_cons, List.length_append, ih, List.length_cons]; show 4 + _ = _; omega

theorem toOwn {W : World} {base : Nat} {e : TypeId} {size : Nat} {v : Value} {n : Nat} {xs : List Value} (h : W.ownsRow base e size v n xs) : Own W base e size v n xs := by
  refine ⟨h.1, ?_⟩
  rcases h.2 with hn | ⟨g, cap, cur, h1, h2, h3, h4, h5, h6, h7⟩
  · exact .inl hn
  · exact .inr ⟨g, cap, cur, (0, 0), h1, h2, h3, .inl (Nat.zero_le _), h4, h5, h6, h7⟩
theorem ownsKept {W W' : World} {base : Nat} {e : TypeId} {size : Nat} {v : Value} {n : Nat} {xs : List Value} {row : Option Nat} (h : W.ownsRow base e size v n xs) (hg : W.grownBy W' row) (hne : ∀ k, v.ownBlock = some k → row ≠ some k) : W'.ownsRow base e size v n xs :=
  h.kept hg (by cases hv : v.ownBlock with | none => exact .inl rfl | some k => exact .inr (fun e => hne k hv e.symm))
theorem ownsMono {W : World} {base base' : Nat} {e : TypeId} {size : Nat} {v : Value} {n : Nat} {xs : List Value} (h : W.ownsRow base e size v n xs) (hb : base' ≤ base) : W.ownsRow base' e size v n xs := by
  refine ⟨h.1, ?_⟩
  rcases h.2 with hn | ⟨g, cap, cur, h1, h2, rest⟩
  · exact .inl hn
  · exact .inr ⟨g, cap, cur, h1, Nat.le_trans hb h2, rest⟩

set_option maxRecDepth 100000 in
set_option maxHeartbeats 1000000 in
theorem appendSeq_any (gf : Nat) (lb : Array Value) (p : Nat → Prop) (xs : List Pkt) (hx : xs.length ≤ 100) (w : World) (eg : Enters Tryd.prog gf)
    (hseq : Seq Tryd.prog gf lb (fun x : Pkt => #[x.val]) p (fun _ => False) xs w) (hp : ∀ k, p k → k < w.heap.size) :
    Calls Tryd.prog 55 #[.slice none 0 0, .func (.func gf) #[] lb] w fun e w' => ∃ v, e = .returned v ∧ w'.ownsRow w.heap.size 24 4 v xs.length (pcells xs) ∧ Ext w w' := by
  refine (callsIn_wide (n := 0)).1 ?_
  refine callsIn_of_wp_marks Tryd.func55 rfl trivial ?_ rfl
  simp only [Tryd.ntmps55, List.size_toArray, List.length_cons, List.length_nil, Nat.reduceAdd, Nat.reduceSub, Array.replicate_succ, Array.replicate_zero, List.push_toArray, List.append_toArray, List.nil_append, List.cons_append]
  refine wpIn_wide.2 ?_
  go_wp2
  refine (wpIn_wide (n := 0)).1 ?_
  have hr0 := Row.new w 37 [.slice none 0 0]
  have hE0 := (Ext.refl w).alloc (.cells #[.slice none 0 0] 37)
  have hs0 : (w.alloc (.cells #[.slice none 0 0] 37)).heap.size = w.heap.size + 1 := World.size_alloc _ _
  generalize w.alloc (.cells #[.slice none 0 0] 37) = w1 at *
  refine wp_range (gf := gf) (lb := lb) rfl eg hseq hE0 (fun k hk => by have := hp k hk; unfold two; omega) (fun k hk => hk.elim) (fun _ => rfl)
    (fun j W => (∃ v, Row W w.heap.size 37 [v] ∧ W.ownsRow (w.heap.size + 3) 24 4 v j (pcells (xs.take j))) ∧ Ext w W) (fun _ _ _ => False)
    (fun j A A' r hs hg hr => ⟨by
      obtain ⟨⟨v, h1, h2⟩, _⟩ := hs
      exact ⟨v, h1.kept hg (fun e => by rcases hr _ e.symm with h | h | h <;> first | exact h.elim | omega), ownsKept h2 hg (fun k hk e => by have := (h2.lt k hk).1; rcases hr _ e with h | h | h <;> first | exact h.elim | omega)⟩,
      hs.2.grown hg (fun k e => by rcases hr k e with h | h | h <;> first | exact h.elim | omega)⟩)
    (fun _ _ _ _ _ hs _ _ => hs) ⟨⟨_, hr0, World.ownsRow_nil _ _ _ _⟩, hE0⟩ ?round ?done ?stop
  case stop => intro D cc j W _ hx; exact hx.elim
  case done =>
    rintro D W ⟨⟨v, hrW, hoW⟩, hEW⟩ hD rfl
    rw [List.take_length] at hoW
    have hc := hrW.cell 0 Nat.zero_lt_one
    go_wp2
    exact (bodyPostM_end rfl hD (results_tmp rfl _ _ _) ⟨_, rfl, ownsKept (ownsMono hoW (by omega)) (grownBy_putObj' _ _ _) (fun k hk e => by have := (hoW.lt k hk).1; have := Option.some.inj e; omega), hEW.putObj (by omega) _⟩).1
  case round =>
    rintro l j x W hx ⟨⟨v, hrW, hoW⟩, hEW⟩ hlt
    obtain ⟨hjl, hxe⟩ := List.getElem?_eq_some_iff.1 hx
    unfold Pkt.val Pkt.cells
    gi_wp2
    refine ⟨(Keeps.refl _ _).alloc _, fun w₂ hg2 => ?_⟩
    have hrp := (Row.new W 24 [.int .i64 x.ser, .int .i64 x.ack, .string x.body, .string x.sl]).kept hg2 (fun e => by have := Option.some.inj e; omega)
    have hr2 : Row w₂ w.heap.size _ _ := (hrW.alloc _).kept hg2 (fun e => by have := Option.some.inj e; omega)
    have ho2 : w₂.ownsRow (w.heap.size + 3) _ _ _ _ _ := ownsKept (hoW.alloc _) hg2 (fun k hk e => by have := (hoW.lt k hk).1; have := Option.some.inj e; omega)
    have hE2 : Ext w w₂ := (hEW.alloc _).grown hg2 (fun k e => by have := Option.some.inj e; omega)
    have hsz2 : w.heap.size + 3 ≤ w₂.heap.size := by have := hg2.size; simp at this; omega
    have hkp : Keeps p W w₂ := ((Keeps.refl _ _).alloc _).grown hg2 (fun k e h => by have := Option.some.inj e; have := hp k h; omega)
    have hc2 := hr2.cell 0 Nat.zero_lt_one
    have hf2 := hr2.frozen 0
    have hp0 := hrp.cell 0 (by show 0 < 4; decide)
    have hp1 := hrp.cell 1 (by show 1 < 4; decide)
    have hp2 := hrp.cell 2 (by show 2 < 4; decide)
    have hp3 := hrp.cell 3 (by show 3 < 4; decide)
    clear hrp
    obtain ⟨i0, hi0, hz0, hz1, hz2⟩ := info_parts (show (Tryd.prog.info? 24).map (fun i => (i.zero, i.size, i.bytes)) = some (some (.agg #[.int .i64 0, .int .i64 0, .string ⟨#[]⟩, .string ⟨#[]⟩]), 4, 48) by kernel_rfl)
    gi_wp2_with (gi_at_builtin; go_loud (refine wpListIn_append_own _ rfl _ _ 37 rfl _ 24 i0 (.agg #[.int .i64 0, .int .i64 0, .string ⟨#[]⟩, .string ⟨#[]⟩]) 4 48 Tryd.underlying37 hi0 hz0 hz1 hz2 rfl (by decide) _ _ _ rfl (ho2.alloc _) ⟨w₂.heap.size, 0, none⟩ 1 1 [_, _, _, _] rfl rfl (new_cells _ _ _) (by simp [Value.oneCell']) (by simp only [maxLen]; omega) (by omega) (by simp; omega) ?_; intro v3 w3 ho3 hg3 _; have hr3 := (toOwn ho2).row (hr2.alloc _) hg3 (by omega); have hc3 := hr3.cell 0 Nat.zero_lt_one; have hf3 := hr3.frozen 0; obtain ⟨p3, c3, rfl, _⟩ := (toOwn ho3).form'))
    have hgs := grownBy_setCell' w3 w.heap.size (.slice p3 (j + 1) c3)
    refine ⟨(((Keeps.refl _ _).alloc _).grown hg3 (fun k e h => by have := (ho2.lt k e).1; rcases h with h | h <;> omega)).grown hgs (fun k e h => by have := Option.some.inj e; rcases h with h | h <;> omega),
      ((hkp.alloc _).grown hg3 (fun k e h => by have := (ho2.lt k e).1; have := hp k h; omega)).grown hgs (fun k e h => by have := Option.some.inj e; have := hp k h; omega), ⟨_, hr3.set 0 _, ?_⟩, ?_⟩
    · have htk : pcells (xs.take (j + 1)) = pcells (xs.take j) ++ [.int .i64 x.ser, .int .i64 x.ack, .string x.body, .string x.sl] := by
        rw [List.take_succ_eq_append_getElem hjl, hxe]
        unfold pcells
        rw [List.flatMap_append]
        rfl
      rw [htk]
      exact ownsKept ho3 hgs (fun k hk e => by have := (ho3.lt k hk).1; have := Option.some.inj e; omega)
    · exact ((toOwn ho2).grow (hE2.alloc _) hg3 (by omega)).grown hgs (fun k e => by have := Option.some.inj e; omega)

set_option maxRecDepth 100000 in
set_option maxHeartbeats 1000000 in
theorem collect_any (gf : Nat) (lb : Array Value) (p : Nat → Prop) (xs : List Pkt) (hx : xs.length ≤ 100) (w : World) (eg : Enters Tryd.prog gf)
    (hseq : Seq Tryd.prog gf lb (fun x : Pkt => #[x.val]) p (fun _ => False) xs w) (hp : ∀ k, p k → k < w.heap.size) :
    Calls Tryd.prog 46 #[.func (.func gf) #[] lb] w fun e w' => ∃ v, e = .returned v ∧ w'.ownsRow w.heap.size 24 4 v xs.length (pcells xs) ∧ Ext w w' := by
  have HC := Lib.hid (appendSeq_any gf lb p xs hx w eg hseq hp)
  clear hseq eg
  go_enter Tryd.func46, Tryd.ntmps46
  go_wp2_with (go_at_call 55; refine HC.out.mono ?_; rintro e w1 ⟨v, rfl, ho, hE⟩)
  go_ret
  exact ⟨_, rfl, ho, hE⟩
end Go.Proofs.YtjamakapkpkfeaaDoor
