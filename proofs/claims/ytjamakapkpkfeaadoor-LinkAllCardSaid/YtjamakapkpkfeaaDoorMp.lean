/- A map of messages by their serials, as a function: what a look, a store and a deletion make of it. -/
import Derived.Test.YtjamakapkpkfeaaDoorInp
import Derived.Maps.OwnSet
import Derived.Maps.StringElems
import Derived.Carry
namespace Go.Proofs.YtjamakapkpkfeaaDoor
open Go.RowKit Go.Shelf Sha Go.Maps

/-- How the map's datum says what stands at x. -/
def Says (D : DataW Unit) (x : Int) : Option ByteArray → Prop
  | none => has D (.int .i64 x) = false
  | some s => has D (.int .i64 x) = true ∧ ∀ z, D.atKey (.int .i64 x) z = .lit (.string s.data.toList)
/-- Block M of W is a map that reads as f, of at most n entries. -/
def Mp (W : World) (M n : Nat) (f : Int → Option ByteArray) : Prop :=
  ∃ D : DataW Unit, W.ownsMap Tryd.prog 3 (plainElem Tryd.prog 9) M n D ∧ ∀ x, I64 x → Says D x (f x)

theorem i64_wf {x : Int} (h : I64 x) : (Lit.int .i64 x).wf = true := by
  obtain ⟨h0, h1⟩ := h
  simp [Lit.wf, IntKind.min, IntKind.max, IntKind.bits, IntKind.signed]
  omega
theorem mp_keyed : Keyed Tryd.prog 3 := int_keyed Tryd.underlying3
theorem Mp.lt {W : World} {M n : Nat} {f : Int → Option ByteArray} (h : Mp W M n f) : M < W.heap.size := by obtain ⟨D, h1, _⟩ := h; exact h1.lt
theorem Mp.kept {W W' : World} {M n : Nat} {f : Int → Option ByteArray} (h : Mp W M n f) {r : Option Nat} (hg : W.grownBy W' r) (hne : some M ≠ r) : Mp W' M n f := by
  obtain ⟨D, h1, h2⟩ := h; exact ⟨D, h1.kept hg hne, h2⟩
theorem Mp.mono {W : World} {M n n' : Nat} {f : Int → Option ByteArray} (h : Mp W M n f) (hn : n ≤ n') : Mp W M n' f := by
  obtain ⟨D, h1, h2⟩ := h; exact ⟨D, h1.mono hn, h2⟩
theorem Mp.heap {W W' : World} {M n : Nat} {f : Int → Option ByteArray} (h : Mp W M n f) (hb : W'.heap[M]? = W.heap[M]?) : Mp W' M n f := by
  obtain ⟨D, ⟨es, clock, h3, h4, h5, h6⟩, h2⟩ := h; exact ⟨D, ⟨es, clock, hb.trans h3, h4, h5, h6⟩, h2⟩
theorem Mp.made (W : World) : Mp (W.alloc (.map #[] 0)) W.heap.size 0 (fun _ => none) := ⟨.map [], World.ownsMap_made _ _ _ _, fun _ _ => rfl⟩

theorem Mp.look {W : World} {M n : Nat} {f : Int → Option ByteArray} (h : Mp W M n f) {x : Int} (hx : I64 x) :
    (Instr.lookup 71 (.map (some M)) (.int .i64 x) true).run Tryd.prog W = .ok (.tuple #[.string ((f x).getD ⟨#[]⟩), .bool (f x).isSome]) W := by
  obtain ⟨D, h1, h2⟩ := h
  have hwf := i64_wf hx
  obtain ⟨v, ps, hr, hv⟩ := h1.look_ok mp_keyed Tryd.underlying71 (Tryd.zeroValue9 W) (plainElem_string Tryd.underlying9 (by decide)) (keyOf_int_mk Tryd.underlying3 hwf)
  obtain ⟨s, rfl, hs, _⟩ := plainElem_string_inv Tryd.underlying9 hv
  simp only [Prod.mk.injEq] at hs
  have h3 := h2 x hx
  have str_of : ∀ {a b : ByteArray} {H : DataW Unit} , H = .lit (.string a.data.toList) → H = .lit (.string b.data.toList) → a = b := by
    intro a b H e1 e2
    have e3 := e1.symm.trans e2
    simp only [DataW.lit.injEq, Lit.string.injEq] at e3
    exact ByteArray.ext (Array.toList_inj.1 e3)
  rw [hr]
  cases hf : f x with
  | none =>
    rw [hf] at h3
    rw [show s = ⟨#[]⟩ from str_of hs.1 (atKey_of_not_has h3 _), show has D (.int .i64 x) = false from h3]
    rfl
  | some s' =>
    rw [hf] at h3
    rw [show s = s' from str_of hs.1 (h3.2 _), h3.1]
    rfl

theorem Mp.store {W : World} {M n : Nat} {f : Int → Option ByteArray} (h : Mp W M n f) (hn : n < maxLen) {x : Int} (hx : I64 x) {s : ByteArray} (hs : s.size ≤ maxLen) :
    ∃ W', (Instr.mapUpdate 71 (.map (some M)) (.int .i64 x) (.string s)).run Tryd.prog W = .ok () W' ∧ Mp W' M (n + 1) (fun y => if y = x then some s else f y) ∧ W.grownBy W' (some M) := by
  obtain ⟨D, h1, h2⟩ := h
  obtain ⟨W', hr, h3, h4⟩ := h1.store mp_keyed Tryd.underlying71 hn (keyOf_int_mk Tryd.underlying3 (i64_wf hx)) (plainElem_string Tryd.underlying9 hs)
  refine ⟨W', hr, ⟨_, h3, fun y hy => ?_⟩, h4.grown⟩
  dsimp only
  by_cases e : y = x
  · subst e
    rw [if_pos rfl]
    exact ⟨has_put_same h1.isMap (show WideAt.IsKeyLit (.int .i64 y) from trivial) _, fun z => atKey_put_same h1.isMap (show WideAt.IsKeyLit (.int .i64 y) from trivial) _ _⟩
  · rw [if_neg e]
    have hne : (Lit.int .i64 y) ≠ .int .i64 x := fun he => e (by cases he; rfl)
    have h5 := h2 y hy
    cases hf : f y with
    | none => rw [hf] at h5; exact (has_put_other hne _).trans h5
    | some t => rw [hf] at h5; exact ⟨(has_put_other hne _).trans h5.1, fun z => (atKey_put_other hne _ _).trans (h5.2 z)⟩

theorem Mp.drop {W : World} {M n : Nat} {f : Int → Option ByteArray} (h : Mp W M n f) {x : Int} (hx : I64 x) (ty : TypeId) :
    ∃ W', (Builtin.delete_ #[71, 3] ty #[.map (some M), .int .i64 x]).run Tryd.prog W = .ok (.tuple #[]) W' ∧ Mp W' M n (fun y => if y = x then none else f y) ∧ W.grownBy W' (some M) := by
  obtain ⟨D, h1, h2⟩ := h
  obtain ⟨W', hr, h3, h4⟩ := h1.drop mp_keyed Tryd.underlying71 (keyOf_int_mk Tryd.underlying3 (i64_wf hx)) ty
  refine ⟨W', hr, ⟨_, h3, fun y hy => ?_⟩, h4.grown⟩
  dsimp only
  by_cases e : y = x
  · subst e
    rw [if_pos rfl]
    exact has_del_same
  · rw [if_neg e]
    have hne : (Lit.int .i64 y) ≠ .int .i64 x := fun he => e (by cases he; rfl)
    have h5 := h2 y hy
    cases hf : f y with
    | none => rw [hf] at h5; exact (has_del_other hne).trans h5
    | some t => rw [hf] at h5; exact ⟨(has_del_other hne).trans h5.1, fun z => (atKey_del_other hne _).trans (h5.2 z)⟩
end Go.Proofs.YtjamakapkpkfeaaDoor
