/- What append makes of a slice that is owned where what is added is any slice, nil too; and of a slice without room. -/
import Derived.Test.YtjamakapkpkfeaaDoorApp2
import Derived.Test.YtjamakapkpkfeaaDoorCmp
namespace Go.Proofs.YtjamakapkpkfeaaDoor
open Go.RowKit Go.Shelf Sha

theorem run_append_zero {P : Program} (w : World) (t ty e : TypeId) (i : TypeInfo) (ht : P.underlying t = some (.slice e)) (hi : P.info? e = some i) (p q : Option Addr) (n cap c : Nat) (hnc : n ≤ cap) :
    (Builtin.append_ #[t, t] ty #[.slice p n cap, .slice q 0 c]).run P w = .ok (.slice p n cap) w := by
  have hf : (Builtin.firstCells i.size 0 (.slice q 0 c)).run P w = .ok #[] w := by
    cases q with
    | none => exact run_firstCells_none _ _ _ _ _
    | some a => exact run_firstCells_some (P := P) w i.size 0 a 0 c [] (by simp) (by intro j v h; simp at h)
  cases p <;> simp [Builtin.append_, run_underlying ht, sizeOf, typeInfo, hi, Builtin.lenOf, hnc, hf, storeCells]

/-- vs is a slice of m elements whose cells are news; where it has none, any. -/
def Src (w : World) (vs : Value) (size m : Nat) (news : List Value) : Prop :=
  ∃ q c, vs = .slice q m c ∧ news.length = m * size ∧ (0 < m → ∃ a, q = some a ∧ ∀ j u, news[j]? = some u → w.cell? (a.add j) = some u)
theorem Sl.src {W : World} {v : Value} {size n : Nat} {xs : List Value} (h : Sl W v size n xs) : Src W v size n xs := by
  obtain ⟨h1, p, c, rfl, h2⟩ := h
  refine ⟨p, c, rfl, h1, fun hn => ?_⟩
  obtain ⟨g, rfl, h3⟩ := h2 hn
  exact ⟨_, rfl, fun j u hu => by rw [Addr.add_mid, Nat.zero_add]; exact h3 j u hu⟩

theorem run_append_S {P : Program} (w : World) (base : Nat) (t ty e : TypeId) (z : Value) (size bytes : Nat) (ht : P.underlying t = some (.slice e)) (hinf : (P.info? e).map (fun i => (i.zero, i.size, i.bytes)) = some (some z, size, bytes))
    (hzs : z.cells.size = size) (hsz : 0 < size)
    (v : Value) (n : Nat) (xs : List Value) (hown : Own w base e size v n xs) {vs : Value} {m : Nat} (news : List Value) (hs : Src w vs size m news) (h1 : ∀ u ∈ news, u.oneCell' = true)
    (h63 : n + m ≤ maxLen) (hbytes : (n + m) * bytes ≤ 140737488355328) (hbase : base ≤ w.heap.size) :
    ∃ v' w', (Builtin.append_ #[t, t] ty #[v, vs]).run P w = .ok v' w' ∧ Own w' base e size v' (n + m) (xs ++ news) ∧ w.grownBy w' v.ownBlock ∧ (∀ k, v'.ownBlock = some k → v.ownBlock = some k ∨ w.heap.size ≤ k) := by
  obtain ⟨q, c, rfl, hl, hc⟩ := hs
  rcases Nat.eq_zero_or_pos m with rfl | hm
  · obtain ⟨p, cap, rfl, hnc⟩ := hown.form'
    obtain ⟨i, hi, _, _, _⟩ := info_parts hinf
    have hn : news = [] := List.eq_nil_of_length_eq_zero (by rw [hl, Nat.zero_mul])
    subst hn
    exact ⟨_, w, run_append_zero w t ty e i ht hi p q n cap c hnc, by rw [List.append_nil, Nat.add_zero]; exact hown, ⟨rfl, rfl, rfl, Nat.le_refl _, fun _ _ _ => rfl⟩, fun k hk => .inl hk⟩
  · obtain ⟨a, rfl, hc2⟩ := hc hm
    exact run_append_G2 w base t ty e z size bytes ht hinf hzs hsz v n xs hown a m c news hl hc2 h1 h63 hbytes hbase

/-- A slice without room: what is appended goes elsewhere, and nothing is written. -/
theorem run_append_cut {P : Program} (w : World) (t ty e : TypeId) (z : Value) (size bytes : Nat) (ht : P.underlying t = some (.slice e)) (hinf : (P.info? e).map (fun i => (i.zero, i.size, i.bytes)) = some (some z, size, bytes))
    (g n : Nat) (xs : List Value) (hxl : xs.length = n * size) (hx : ∀ j u, xs[j]? = some u → w.cell? ⟨g, j, none⟩ = some u) {vs : Value} {m : Nat} (news : List Value) (hs : Src w vs size m news)
    (h63 : n + m ≤ maxLen) (hbytes : (n + m) * bytes ≤ 140737488355328) :
    ∃ p c w', (Builtin.append_ #[t, t] ty #[.slice (some ⟨g, 0, none⟩) n n, vs]).run P w = .ok (.slice p (n + m) c) w' ∧ Sl w' (.slice p (n + m) c) size (n + m) (xs ++ news) ∧ Ext w w' ∧ (∀ k, (Value.slice p (n + m) c).ownBlock = some k → k = g ∨ (w.heap.size ≤ k ∧ k < w'.heap.size)) ∧ n + m ≤ c := by
  obtain ⟨q, c, rfl, hl, hc⟩ := hs
  obtain ⟨i, hi, hz, rfl, rfl⟩ := info_parts hinf
  rcases Nat.eq_zero_or_pos m with rfl | hm
  · have hn : news = [] := List.eq_nil_of_length_eq_zero (by rw [hl, Nat.zero_mul])
    subst hn
    refine ⟨_, _, w, run_append_zero w t ty e i ht hi _ q n n c (Nat.le_refl _), ⟨by rw [List.append_nil, Nat.add_zero]; exact hxl, _, _, rfl, fun _ => ⟨g, rfl, ?_⟩⟩, Ext.refl _, fun k hk => .inl ?_, Nat.le_refl _⟩
    · rw [List.append_nil]; exact hx
    · simp [Value.ownBlock] at hk; exact hk.symm
  · obtain ⟨a, rfl, hc2⟩ := hc hm
    have hr := run_append_grow (P := P) w t ty e i z ht hi hz ⟨g, 0, none⟩ n n xs hxl (fun j u hu => by rw [Addr.add_mid, Nat.zero_add]; exact hx j u hu) a m c news hl hc2 (by omega) (by simp only [maxLen] at h63; omega) (growslice_fits (by omega) hbytes)
    refine ⟨_, _, _, hr, ⟨by rw [List.length_append, hxl, hl, Nat.add_mul], _, _, rfl, fun _ => ⟨w.heap.size, rfl, fun j u hu => ?_⟩⟩, (Ext.refl w).drew.alloc _, fun k hk => .inr (by simp [Value.ownBlock] at hk; subst hk; simp), grownCap_ge w (n + m) n e⟩
    have hb := heap_alloc_new w.drew (.cells (xs.toArray ++ news.toArray ++ Builtin.zeroCells z.cells (grownCap w (n + m) n e - (n + m))) e)
    have hb : (w.drew.alloc (.cells (xs.toArray ++ news.toArray ++ Builtin.zeroCells z.cells (grownCap w (n + m) n e - (n + m))) e)).heap[w.heap.size]? = _ := hb
    have hj := (List.getElem?_eq_some_iff.1 hu).1
    simp only [World.cell?, hb]
    rw [Array.getElem?_append_left (by simp only [Array.size_append, List.size_toArray]; rw [List.length_append] at hj; exact hj)]
    rw [← hu]
    simp

section
variable {P : Program} {ops : Array Oper} {rest : List Oper} {o : Oper} {a : Act} {w : World} {Q : Exit → Act → World → Prop}
theorem wpList_append_S (hgd : o.guard = none) (s x : Operand) (t : TypeId) (ho : o.op = .call { callee := .builtin .append, args := #[s, x], argTypes := #[t, t] })
    (base : Nat) (e : TypeId) (z : Value) (size bytes : Nat) (ht : P.underlying t = some (.slice e)) (hinf : (P.info? e).map (fun i => (i.zero, i.size, i.bytes)) = some (some z, size, bytes)) (hzs : z.cells.size = size) (hsz : 0 < size)
    {v : Value} {n : Nat} {xs : List Value} (hown : Own w base e size v n xs) (hs : a.eval s = v) {vs : Value} {m : Nat} (news : List Value) (hx : a.eval x = vs) (hsrc : Src w vs size m news) (h1 : ∀ u ∈ news, u.oneCell' = true)
    (h63 : n + m ≤ maxLen) (hbytes : (n + m) * bytes ≤ 140737488355328) (hbase : base ≤ w.heap.size)
    (h : ∀ v' w', Own w' base e size v' (n + m) (xs ++ news) → w.grownBy w' v.ownBlock → (∀ k, v'.ownBlock = some k → v.ownBlock = some k ∨ w.heap.size ≤ k) → wpList P ops Q rest (a.put o.dst v') w') : wpList P ops Q (o :: rest) a w :=
  wpList_plain hgd fun _ hK => by
    obtain ⟨v', w', hr, h2, h3, h4⟩ := run_append_S (P := P) w base t o.type e z size bytes ht hinf hzs hsz v n xs hown news hsrc h1 h63 hbytes hbase
    unfold Oper.wp execOp
    simp only [ho, resolve, invoke, builtin, Sem.run_bind, Sem.run_pure, Result.andThen_ok, List.map_toArray, List.map_cons, List.map_nil, hs, hx, hr]
    exact hK _ _ (h v' w' h2 h3 h4)
theorem wp_append_S {K : Act → World → Prop} (s x : Operand) (t : TypeId) (ho : o.op = .call { callee := .builtin .append, args := #[s, x], argTypes := #[t, t] })
    (base : Nat) (e : TypeId) (z : Value) (size bytes : Nat) (ht : P.underlying t = some (.slice e)) (hinf : (P.info? e).map (fun i => (i.zero, i.size, i.bytes)) = some (some z, size, bytes)) (hzs : z.cells.size = size) (hsz : 0 < size)
    {v : Value} {n : Nat} {xs : List Value} (hown : Own w base e size v n xs) (hs : a.eval s = v) {vs : Value} {m : Nat} (news : List Value) (hx : a.eval x = vs) (hsrc : Src w vs size m news) (h1 : ∀ u ∈ news, u.oneCell' = true)
    (h63 : n + m ≤ maxLen) (hbytes : (n + m) * bytes ≤ 140737488355328) (hbase : base ≤ w.heap.size)
    (h : ∀ v' w', Own w' base e size v' (n + m) (xs ++ news) → w.grownBy w' v.ownBlock → (∀ k, v'.ownBlock = some k → v.ownBlock = some k ∨ w.heap.size ≤ k) → K (a.put o.dst v') w') : o.wp P a w K Q := by
  obtain ⟨v', w', hr, h2, h3, h4⟩ := run_append_S (P := P) w base t o.type e z size bytes ht hinf hzs hsz v n xs hown news hsrc h1 h63 hbytes hbase
  unfold Oper.wp execOp
  simp only [ho, resolve, invoke, builtin, Sem.run_bind, Sem.run_pure, Result.andThen_ok, List.map_toArray, List.map_cons, List.map_nil, hs, hx, hr]
  exact h v' w' h2 h3 h4
theorem wp_append_cut {K : Act → World → Prop} (s x : Operand) (t : TypeId) (ho : o.op = .call { callee := .builtin .append, args := #[s, x], argTypes := #[t, t] })
    (e : TypeId) (z : Value) (size bytes : Nat) (ht : P.underlying t = some (.slice e)) (hinf : (P.info? e).map (fun i => (i.zero, i.size, i.bytes)) = some (some z, size, bytes))
    {g n : Nat} {xs : List Value} (hs : a.eval s = .slice (some ⟨g, 0, none⟩) n n) (hxl : xs.length = n * size) (hxs : ∀ j u, xs[j]? = some u → w.cell? ⟨g, j, none⟩ = some u) {vs : Value} {m : Nat} (news : List Value) (hx : a.eval x = vs) (hsrc : Src w vs size m news)
    (h63 : n + m ≤ maxLen) (hbytes : (n + m) * bytes ≤ 140737488355328)
    (h : ∀ p c w', Sl w' (.slice p (n + m) c) size (n + m) (xs ++ news) → Ext w w' → (∀ k, (Value.slice p (n + m) c).ownBlock = some k → k = g ∨ (w.heap.size ≤ k ∧ k < w'.heap.size)) → n + m ≤ c → K (a.put o.dst (.slice p (n + m) c)) w') : o.wp P a w K Q := by
  obtain ⟨p, c, w', hr, h2, h3, h4, h5⟩ := run_append_cut (P := P) w t o.type e z size bytes ht hinf g n xs hxl hxs news hsrc h63 hbytes
  unfold Oper.wp execOp
  simp only [ho, resolve, invoke, builtin, Sem.run_bind, Sem.run_pure, Result.andThen_ok, List.map_toArray, List.map_cons, List.map_nil, hs, hx, hr]
  exact h p c w' h2 h3 h4 h5
end
theorem pcells_erase (l : List Pkt) (k : Nat) : pcells (l.take k) ++ pcells (l.drop (k + 1)) = pcells (l.eraseIdx k) := by
  rw [List.eraseIdx_eq_take_drop_succ]; unfold pcells; rw [List.flatMap_append]
theorem pcells_drop (l : List Pkt) (k : Nat) : (pcells l).drop (k * 4) = pcells (l.drop k) := by
  induction l generalizing k with
  | nil => cases k <;> simp [pcells]
  | cons x l ih =>
    cases k with
    | zero => rw [Nat.zero_mul, List.drop_zero, List.drop_zero]
    | succ k =>
      rw [List.drop_succ_cons, ← ih k]
      show (x.cells ++ pcells l).drop ((k + 1) * 4) = _
      rw [List.drop_append, List.drop_eq_nil_of_le (by show 4 ≤ (k + 1) * 4; omega), List.nil_append]
      congr 1
      show (k + 1) * 4 - 4 = k * 4
      omega
theorem pcells_take (l : List Pkt) (k : Nat) : (pcells l).take (k * 4) = pcells (l.take k) := by
  induction l generalizing k with
  | nil => cases k <;> simp [pcells]
  | cons x l ih =>
    cases k with
    | zero => rw [Nat.zero_mul, List.take_zero, List.take_zero]; rfl
    | succ k =>
      rw [List.take_succ_cons]
      show (x.cells ++ pcells l).take ((k + 1) * 4) = x.cells ++ pcells (l.take k)
      rw [← ih k, List.take_append, List.take_of_length_le (by show 4 ≤ (k + 1) * 4; omega)]
      congr 2
      show (k + 1) * 4 - 4 = k * 4
      omega
theorem oneCell_svals (l : List ByteArray) : ∀ u ∈ svals l, u.oneCell' = true := by
  intro u hu
  obtain ⟨s, _, rfl⟩ := List.mem_map.1 hu
  rfl
theorem oneCell_pcells (l : List Pkt) : ∀ u ∈ pcells l, u.oneCell' = true := by
  intro u hu
  obtain ⟨s, _, hs⟩ := List.mem_flatMap.1 hu
  unfold Pkt.cells at hs
  simp at hs
  rcases hs with rfl | rfl | rfl | rfl <;> rfl
theorem svals_append (l r : List ByteArray) : svals (l ++ r) = svals l ++ svals r := by unfold svals; rw [List.map_append]
theorem svals_length (l : List ByteArray) : (svals l).length = l.length := by unfold svals; rw [List.length_map]
theorem Sl.blk {W : World} {v : Value} {size n : Nat} {xs : List Value} (h : Sl W v size n xs) (hn : 0 < n * size) (g : Nat) (hg : v.ownBlock = some g) : g < W.heap.size := by
  obtain ⟨h1, p, c, rfl, h2⟩ := h
  obtain ⟨g', rfl, h3⟩ := h2 (Nat.pos_of_mul_pos_right hn)
  simp [Value.ownBlock] at hg
  subst hg
  have hx : xs[0]? = some xs[0] := List.getElem?_eq_getElem (by omega)
  exact lt_of_cell (h3 0 _ hx)
end Go.Proofs.YtjamakapkpkfeaaDoor
