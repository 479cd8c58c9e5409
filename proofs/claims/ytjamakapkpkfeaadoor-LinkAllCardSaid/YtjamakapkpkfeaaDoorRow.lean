/- Rows of cells: a block that is known whole; what reads and stores make of it. -/
import Derived.Test.YtjamakapkpkfeaaDoorSha
import Derived.Deep.MidRow
namespace Go.Proofs.YtjamakapkpkfeaaDoor
open Go.RowKit Sha

/-- Numbers as values. -/
def vals (k : IntKind) (l : List Nat) : List Value := l.map fun n : Nat => .int k (n : Int)
theorem vals_length (k : IntKind) (l : List Nat) : (vals k l).length = l.length := by simp [vals]
theorem vals_append (k : IntKind) (l r : List Nat) : vals k (l ++ r) = vals k l ++ vals k r := by simp [vals]
theorem vals_set (k : IntKind) (l : List Nat) (j n : Nat) : (vals k l).set j (.int k (n : Int)) = vals k (l.set j n) := by simp [vals]

/-- Block b of W is this row of cells. -/
def Row (W : World) (b : Nat) (t : TypeId) (l : List Value) : Prop := W.heap[b]? = some (.cells l.toArray t (0, 0))

section
variable {W W' : World} {b : Nat} {t : TypeId} {l : List Value}
theorem Row.lt (h : Row W b t l) : b < W.heap.size := (Array.getElem?_eq_some_iff.1 h).1
theorem Row.cell (h : Row W b t l) (j : Nat) (hj : j < l.length) : W.cell? ⟨b, j, none⟩ = some (l.getD j undef) := by
  simp [World.cell?, show W.heap[b]? = _ from h, hj, List.getD_eq_getElem?_getD]
theorem Row.frozen (h : Row W b t l) (j : Nat) : W.frozen? ⟨b, j, none⟩ = false := by
  simp [World.frozen?, show W.heap[b]? = _ from h]
theorem Row.ext (h : Row W b t l) (e : Ext W W') : Row W' b t l := e.heap h
theorem Row.set (h : Row W b t l) (j : Nat) (v : Value) : Row (W.setCell ⟨b, j, none⟩ v) b t (l.set j v) := by
  unfold Row World.setCell
  rw [Array.getElem?_modify, if_pos rfl, show W.heap[b]? = _ from h]
  simp
theorem Row.other (h : Row W b t l) {p : Addr} (hp : p.block ≠ b) (v : Value) : Row (W.setCell p v) b t l := by
  unfold Row; rw [Below.heap_setCell _ _ _ _ (Ne.symm hp)]; exact h
theorem Row.new (w : World) (t : TypeId) (l : List Value) : Row (w.alloc (.cells l.toArray t)) w.heap.size t l := by
  unfold Row World.alloc; simp
theorem Row.alloc (h : Row W b t l) (o : Obj) : Row (W.alloc o) b t l := h.ext ((Ext.refl W).alloc o)
theorem Row.drew (h : Row W b t l) : Row W.drew b t l := h
theorem Row.range (h : Row W b t l) : W.rangeAt b 0 l := by
  intro j v hv
  have hj := (List.getElem?_eq_some_iff.1 hv).1
  rw [Nat.zero_add, h.cell j hj, List.getD_eq_getElem?_getD, hv]; rfl
theorem Row.there (h : Row W b t l) : W.there b 0 l.length := fun j hj => ⟨by rw [Nat.zero_add, h.cell j hj]; rfl, h.frozen _⟩
theorem Row.nat {k : IntKind} {l : List Nat} (h : Row W b t (vals k l)) (j : Nat) (hj : j < l.length) : W.cell? ⟨b, j, none⟩ = some (.int k (at_ l j : Nat)) := by
  rw [h.cell j (by rw [vals_length]; exact hj)]
  simp [vals, List.getD_eq_getElem?_getD, at_, hj]
theorem Row.setNat {k : IntKind} {l : List Nat} (h : Row W b t (vals k l)) (j n : Nat) : Row (W.setCell ⟨b, j, none⟩ (.int k (n : Int))) b t (vals k (l.set j n)) := by
  rw [← vals_set]; exact h.set j _
theorem Row.plus (h : Row W b t l) (u : World) : Row (wplus W u) b t l := h.ext (ext_wplus W u)
end

/-- A new row in a plan: the world behind it is any that holds the row. -/
theorem plan_alloc {P : Program} {ops : Array Oper} {K : Act → World → Prop} {r : Plan Oper} {N : Act → World → Prop} {a : Act} {b w : World} {l : List Value} {t : TypeId}
    (hN : ∀ a' b' w', (false = false → Ext b b') → Ext b' w' → wpPlan P ops K r a' b' w' → N a' w') (hE : Ext b w)
    (h : ∀ W1, Row W1 w.heap.size t l → Ext w W1 → Ext b W1 → wpPlan P ops K r a b W1) : N a (w.alloc (.cells l.toArray t)) :=
  hN _ b _ (fun _ => Ext.refl b) (hE.alloc _) (h _ (Row.new w t l) ((Ext.refl w).alloc _) (hE.alloc _))

/-- A new row in a plan, and what is read from here on is read in the world that holds it. -/
theorem plan_alloc2 {P : Program} {ops : Array Oper} {K : Act → World → Prop} {r : Plan Oper} {N : Act → World → Prop} {a : Act} {b w : World} {l : List Value} {t : TypeId}
    (hN : ∀ a' b' w', (false = false → Ext b b') → Ext b' w' → wpPlan P ops K r a' b' w' → N a' w') (hE : Ext b w)
    (h : ∀ W1, Row W1 w.heap.size t l → Ext w W1 → Ext b W1 → wpPlan P ops K r a W1 W1) : N a (w.alloc (.cells l.toArray t)) :=
  hN _ (w.alloc (.cells l.toArray t)) _ (fun _ => hE.alloc _) (Ext.refl _) (h _ (Row.new w t l) ((Ext.refl w).alloc _) (hE.alloc _))

theorem Row.kept {W W' : World} {b : Nat} {t : TypeId} {l : List Value} (h : Row W b t l) {r : Option Nat} (hg : W.grownBy W' r) (hne : some b ≠ r) : Row W' b t l := (hg.block b h.lt hne).trans h
theorem Ext.grown {a w w' : World} (h : Ext a w) {r : Option Nat} (hg : w.grownBy w' r) (hr : ∀ k, r = some k → a.heap.size ≤ k) : Ext a w' := Below.grown h hg h.size hr

/-- A whole row is read. -/
theorem wpList_load_row {P : Program} {ops : Array Oper} {rest : List Oper} {op : Oper} {a : Act} {w : World} {Q : Exit → Act → World → Prop} (hgd : op.guard = none) (ty : TypeId) (x : Operand) (ho : op.op = .load ty x)
    {b : Nat} {t : TypeId} {l : List Value} (hr : Row w b t l) (hx : a.eval x = .pointer (some ⟨b, 0, none⟩)) (d : TypeDesc) (hu : P.underlying ty = some d) (hd : d.isRow = true) (hi : (P.info? ty).map (·.size) = some l.length)
    (h : wpList P ops Q rest (a.put op.dst (.agg l.toArray)) w) : wpList P ops Q (op :: rest) a w :=
  wpList_load_mid hgd ty x ho b 0 hx l d hr.range hu hd hi h

theorem setRow_grown (W : World) (b : Nat) (c : Array Value) : W.grownBy (W.setRow b c) (some b) :=
  ⟨rfl, rfl, rfl, by simp [World.setRow], fun k _ hk => by
    simp only [World.setRow, Array.getElem?_modify]
    rw [if_neg (fun e => hk (by rw [e]))]⟩
theorem Row.setRow {W : World} {b : Nat} {t : TypeId} {l : List Value} (h : Row W b t l) (l' : List Value) : Row (W.setRow b l'.toArray) b t l' := by
  unfold Row World.setRow
  rw [Array.getElem?_modify, if_pos rfl, show W.heap[b]? = _ from h]
  rfl

/-- A whole row is written. -/
theorem wpList_store_row {P : Program} {ops : Array Oper} {rest : List Oper} {op : Oper} {a : Act} {w : World} {Q : Exit → Act → World → Prop} (hgd : op.guard = none) (ty : TypeId) (x y : Operand) (ho : op.op = .store ty x y)
    {b : Nat} {t : TypeId} {l : List Value} (hr : Row w b t l) (l' : List Value) (hx : a.eval x = .pointer (some ⟨b, 0, none⟩)) (hy : a.eval y = .agg l'.toArray) (hl : l'.length = l.length) (hi : (P.info? ty).map (·.size) = some l.length)
    (h1 : ∀ v ∈ l', v.oneCell' = true) (h : ∀ w', Row w' b t l' → w.grownBy w' (some b) → wpList P ops Q rest (a.put op.dst undef) w') : wpList P ops Q (op :: rest) a w :=
  wpList_plain hgd fun _ hK => by
    have hs := run_storeVar_row (P := P) w b t ty l.toArray l'.toArray hr (by simpa [hl] using hi) (by simp [hl]) (all_oneCell_toArray h1)
    unfold Oper.wp execOp
    simp only [ho, hx, hy, Instr.storeAt, Instr.sureAddr, Sem.run_bind, Sem.run_pure, Result.andThen_ok, hs]
    exact hK _ _ (h _ (hr.setRow l') (setRow_grown w b _))

/-- An element of an array's value. -/
theorem wpList_index_arr {P : Program} {ops : Array Oper} {rest : List Oper} {op : Oper} {a : Act} {w : World} {Q : Exit → Act → World → Prop} (hgd : op.guard = none) (ty : TypeId) (x ix : Operand) (ho : op.op = .index ty x ix)
    (l : List Value) (hx : a.eval x = .agg l.toArray) (j : Nat) (hi : a.eval ix = .int .i64 (j : Int)) (n elem : Nat) (hu : P.underlying ty = some (.array n elem)) (hj : j < n) (ik : IntKind) (he : P.underlying elem = some (.int ik))
    (hs : (P.info? elem).map (·.size) = some 1) {v : Value} (hv : l[j]? = some v) (h : wpList P ops Q rest (a.put op.dst v) w) : wpList P ops Q (op :: rest) a w :=
  wpList_plain hgd fun _ hK => by
    cases hq : P.info? elem with
    | none => simp [hq] at hs
    | some i =>
      have hsz : i.size = 1 := by simpa [hq] using hs
      unfold Oper.wp execOp
      simp [ho, hx, hi, Instr.index, asIntOf, run_underlying hu, hj, sizeOf, typeInfo, hq, hsz, part, isAgg, run_underlying he, hv, Result.andThen, Oper.upon]
      exact hK _ _ h

/-- The cells of a row's part, as the laws ask for them. -/
theorem row_cells {W : World} {b : Nat} {t : TypeId} {l : List Value} (h : Row W b t l) (o : Nat) (cs : List Value) (hcs : (l.drop o).take cs.length = cs) : ∀ j v, cs[j]? = some v → W.cell? ((⟨b, o, none⟩ : Addr).add j) = some v := by
  intro j v hv
  rw [Addr.add_mid]
  have hj := (List.getElem?_eq_some_iff.1 hv).1
  rw [← hcs, List.getElem?_take_of_lt hj, List.getElem?_drop] at hv
  have hl := (List.getElem?_eq_some_iff.1 hv).1
  rw [h.cell _ hl, List.getD_eq_getElem?_getD, hv]
  rfl

/-- copy into a row. -/
theorem wp_copy_row {P : Program} {o : Oper} {a : Act} {w : World} {K : Act → World → Prop} {Q : Exit → Act → World → Prop} (d s : Operand) (dT sT : TypeId)
    (ho : o.op = .call { callee := .builtin .copy, args := #[d, s], argTypes := #[dT, sT] }) (elem : TypeId) (hu : P.underlying dT = some (.slice elem)) (hsz : (P.info? elem).map (·.size) = some 1)
    {g off dLen dCap : Nat} {ad : Addr} {sLen sCap : Nat} (hd : a.eval d = .slice (some ⟨g, off, none⟩) dLen dCap) (hs : a.eval s = .slice (some ad) sLen sCap)
    {t : TypeId} {l : List Value} (hr : Row w g t l) (cs : List Value) (hn : cs.length = Nat.min sLen dLen)
    (hsrc : ∀ j v, cs[j]? = some v → w.cell? (ad.add j) = some v) (hfit : off + cs.length ≤ l.length) (h1 : ∀ v ∈ cs, v.oneCell' = true)
    (h : ∀ w', Row w' g t (l.take off ++ cs ++ l.drop (off + cs.length)) → w.grownBy w' (some g) → K (a.put o.dst (goInt cs.length)) w') : o.wp P a w K Q := by
  have hrun := run_copy_row (P := P) w dT sT o.type elem g off dLen dCap ad sLen sCap l.toArray t cs hu hsz hr hn hsrc (by simpa using hfit) h1
  unfold Oper.wp
  have hr' := h _ (hr.setRow (l.take off ++ cs ++ l.drop (off + cs.length))) (setRow_grown w g _)
  simp [execOp, ho, resolve, invoke, builtin, hd, hs, hrun, Result.andThen, Oper.upon]
  simpa using hr'

/-- A result that lies in a cell: a whole row. -/
theorem ret_row {P : Program} {fn : Func} {R : Ending → World → Prop} {a : Act} {w : World} {p : Tmp} {ty : TypeId} {b : Nat} {t : TypeId} {l : List Value} (hres : fn.results = #[.cell p ty]) (hp : a.tmps.getD p undef = .pointer (some ⟨b, 0, none⟩))
    (hr : Row w b t l) (d : TypeDesc) (hu : P.underlying ty = some d) (hd : d.isRow = true) (hi : (P.info? ty).map (·.size) = some l.length) (hdf : a.defers = []) (h : R (.returned (.agg l.toArray)) w) : bodyPost P fn R .ret a w :=
  bodyPost_ret (v := .agg l.toArray) (by
    have hl := run_loadVar_mid (P := P) w b 0 ty l d hr.range hu hd hi
    simp only [results, hres]
    rw [Array.getD_eq_getD_getElem?] at hp
    simp [asAddr, hp, hl]) hdf h
theorem oneCell_vals (k : IntKind) (l : List Nat) : ∀ v ∈ vals k l, v.oneCell' = true := by
  intro v hv
  obtain ⟨n, _, rfl⟩ := List.mem_map.1 hv
  rfl

/-- A slice's cells, from offset o of block b on. -/
def Cells (W : World) (b o : Nat) (k : IntKind) (l : List Nat) : Prop := ∀ j, j < l.length → W.cell? ⟨b, o + j, none⟩ = some (.int k (at_ l j : Nat))
theorem Cells.ext {W W' : World} {b o : Nat} {k : IntKind} {l : List Nat} (h : Cells W b o k l) (e : Ext W W') : Cells W' b o k l := fun j hj => e.cell (h j hj)
theorem Cells.plus {W : World} {b o : Nat} {k : IntKind} {l : List Nat} (h : Cells W b o k l) (u : World) : Cells (wplus W u) b o k l := h.ext (ext_wplus W u)

def Good (l : List Nat) (M : Nat) : Prop := ∀ j, j < l.length → at_ l j < M
theorem take_set_succ (l : List Nat) (k v : Nat) (h : k < l.length) : (l.set k v).take (k + 1) = l.take k ++ [v] := by
  rw [List.take_succ_eq_append_getElem (by simpa using h), List.take_set_of_le (Nat.le_refl k)]
  simp

theorem good_set {l : List Nat} {M k v : Nat} (h : Good l M) (hv : v < M) : Good (l.set k v) M := by
  intro j hj
  unfold at_
  rw [List.getD_eq_getElem?_getD, List.getElem?_set]
  rw [List.length_set] at hj
  split
  · split
    · exact hv
    · rename_i h1 h2; omega
  · have := h j hj
    unfold at_ at this
    rwa [List.getD_eq_getElem?_getD] at this
theorem good_zeros (n : Nat) : Good (List.replicate n 0) 4294967296 := by
  intro j hj
  simp [at_, List.getD_eq_getElem?_getD, List.getElem?_replicate]
  split <;> decide
theorem at_take {l : List Nat} {k j : Nat} (h : j < k) : at_ (l.take k) j = at_ l j := by
  unfold at_
  rw [List.getD_eq_getElem?_getD, List.getD_eq_getElem?_getD, List.getElem?_take_of_lt h]
theorem good_append {l r : List Nat} {M : Nat} (h : Good l M) (k : Good r M) : Good (l ++ r) M := by
  intro j hj
  unfold at_
  rw [List.getD_eq_getElem?_getD]
  rcases Nat.lt_or_ge j l.length with h1 | h1
  · rw [List.getElem?_append_left h1]; have := h j h1; unfold at_ at this; rwa [List.getD_eq_getElem?_getD] at this
  · rw [List.getElem?_append_right h1]; have := k (j - l.length) (by rw [List.length_append] at hj; omega); unfold at_ at this; rwa [List.getD_eq_getElem?_getD] at this
theorem good_iff {l : List Nat} {M : Nat} : Good l M ↔ ∀ x ∈ l, x < M := by
  constructor
  · intro h x hx
    obtain ⟨j, hj, rfl⟩ := List.mem_iff_getElem.1 hx
    have := h j hj
    unfold at_ at this
    rwa [List.getD_eq_getElem?_getD, List.getElem?_eq_getElem hj] at this
  · intro h j hj
    unfold at_
    rw [List.getD_eq_getElem?_getD, List.getElem?_eq_getElem hj]
    exact h _ (List.getElem_mem hj)
theorem cells_of_row {W : World} {b : Nat} {t : TypeId} {k : IntKind} {l : List Nat} (h : Row W b t (vals k l)) : Cells W b 0 k l := fun j hj => by rw [Nat.zero_add]; exact h.nat j hj

/-- A slice of bytes becomes a string. -/
theorem wpList_bytes_str {P : Program} {ops : Array Oper} {rest : List Oper} {op : Oper} {a : Act} {w : World} {Q : Exit → Act → World → Prop} (hgd : op.guard = none) (src dst : TypeId) (x : Operand) (ho : op.op = .convert src dst x)
    (e : TypeId) (hs : P.underlying src = some (.slice e)) (he : P.underlying e = some (.int .u8)) (hd : P.underlying dst = some .string) {b o n cap : Nat} (ns : List Nat) (hn : ns.length = n) (hx : a.eval x = .slice (some ⟨b, o, none⟩) n cap)
    (hc : Cells w b o .u8 ns) (hg : Good ns 256) (h : wpList P ops Q rest (a.put op.dst (.string (str ns))) w) : wpList P ops Q (op :: rest) a w :=
  wpList_plain hgd fun _ hK => by
    subst hn
    have hr := run_convert_bytes_back (P := P) w src dst e ⟨b, o, none⟩ cap (ns.map UInt8.ofNat) hs he hd (fun j hj => by
      rw [List.length_map] at hj
      rw [Addr.add_mid, hc j hj]
      have h1 := hg j hj
      unfold at_ at h1 ⊢
      rw [List.getD_eq_getElem?_getD, List.getElem?_eq_getElem hj] at h1 ⊢
      have h1 : ns[j] < 256 := h1
      rw [List.getElem_map, UInt8.toNat_ofNat', Nat.mod_eq_of_lt (show ns[j] < 2 ^ 8 from h1)]
      rfl)
    rw [List.length_map] at hr
    unfold Oper.wp execOp
    simp [ho, hx, hr, Result.andThen, Oper.upon]
    exact hK _ _ h

end Go.Proofs.YtjamakapkpkfeaaDoor
