/- Arguments opened: packets, lists of calls, lists of numbers. -/
import Derived.Test.YtjamakapkpkfeaaDoorFrame
import Derived.Test.YtjamakapkpkfeaaDoorCmp
import Derived.Test.YtjamakapkpkfeaaDoorInp
import Derived.Deep.Slices
namespace Go.Proofs.YtjamakapkpkfeaaDoor
open Go.ChangeShapes Go.WideShapes Go.ChangeAt Go.RowKit Sha

theorem i64_zero : I64 0 := ⟨by decide, by decide⟩
theorem i64_of_wf {n : Int} (h : (Lit.int .i64 n).wf = true) : I64 n := bounds_i64 h

/-- What the row's list gives: the digest's table. -/
theorem tab_of {W : World} (h : laidMetH Tryd.prog [("dialtone/digest.round", Rows.laid_dialtone_digest_round)] W) : Tab W := by
  have ht : Lib.TabIs Tryd.prog W "dialtone/digest.round" .u32 (consts.map Int.ofNat) :=
    Lib.tabIs_of_head (rest := []) gTab gTabType Tryd.underlying121 Tryd.underlying83 cellsWord cellsTab
      (by rw [show Lib.tabData (H := Unit) .u32 (consts.map Int.ofNat) = Rows.laid_dialtone_digest_round by kernel_rfl]; exact h)
  intro j v hv
  have hj : j < consts.length := by
    rcases Nat.lt_or_ge j consts.length with h | h
    · exact h
    · rw [List.getElem?_eq_none (by rw [vals, List.length_map]; exact h)] at hv; cases hv
  have := ht.cell gTab j (by rw [List.length_map]; exact hj)
  rw [Nat.zero_add, this, ← hv, vals_at _ _ j hj, List.getD_eq_getElem?_getD, List.getElem?_map, List.getElem?_eq_getElem hj]
  unfold at_
  rw [List.getD_eq_getElem?_getD, List.getElem?_eq_getElem hj]
  rfl

section
variable {H : Type} {enc : TypeId × Value → H} {W : World} {base : Nat} {spare : Nat → Bool} {held : Bool}
set_option maxRecDepth 100000 in
theorem open_pkt {r : Reach} {b0 : Nat} {v : Value} {d : DataW H} {ps : List MemPlace} (hval : Value.okWide Tryd.prog W r b0 24 v) (hd : DataW.Trod enc Tryd.prog W base spare held 24 v d ps) :
    ∃ p : Pkt, v = p.val ∧ I64 p.ser ∧ I64 p.ack ∧ p.body.size ≤ maxLen ∧ p.sl.size ≤ maxLen := by
  obtain ⟨cs, rfl, hsz⟩ := okWide_struct Tryd.underlying24 hval
  obtain ⟨fuel, hf⟩ := hd
  obtain ⟨xs, n, _, _, hl, hxl, hfs⟩ := DataW.trod_struct Tryd.underlying24 hf
  have hc4 : Tryd.prog.cellsOf 24 = 4 := by kernel_rfl
  have hci : Tryd.prog.cellsOf 3 = 1 := by kernel_rfl
  have hcs : Tryd.prog.cellsOf 9 = 1 := by kernel_rfl
  rw [hc4] at hl hsz
  have hcs' : (Value.agg cs).cells.toList = cs.toList := rfl
  rw [hcs'] at hl hfs
  obtain ⟨l, rfl⟩ : ∃ l : List Value, cs = l.toArray := ⟨cs.toList, by simp⟩
  rw [List.toList_toArray] at hl hfs
  match l, hl with
  | [a, b, c, e], _ =>
    have hx : xs.length = 4 := hxl
    have h0 := hfs 0 _ rfl
    have h1 := hfs 1 _ rfl
    have h2 := hfs 2 _ rfl
    have h3 := hfs 3 _ rfl
    rw [List.getElem?_eq_getElem (by omega)] at h0 h1 h2 h3
    obtain ⟨n0, e0, _, w0⟩ := DataW.trod_int Tryd.underlying3 h0
    obtain ⟨n1, e1, _, w1⟩ := DataW.trod_int Tryd.underlying3 h1
    obtain ⟨s2, e2, _, w2⟩ := DataW.trod_string Tryd.underlying9 h2
    obtain ⟨s3, e3, _, w3⟩ := DataW.trod_string Tryd.underlying9 h3
    change List.take (Tryd.prog.cellsOf 3) [a, b, c, e] = _ at e0
    change List.take (Tryd.prog.cellsOf 3) [b, c, e] = _ at e1
    change List.take (Tryd.prog.cellsOf 9) [c, e] = _ at e2
    change List.take (Tryd.prog.cellsOf 9) [e] = _ at e3
    rw [hci] at e0 e1
    rw [hcs] at e2 e3
    cases e0; cases e1; cases e2; cases e3
    exact ⟨⟨n0, n1, s2, s3⟩, rfl, i64_of_wf w0, i64_of_wf w1, w2, w3⟩

/-- A list of calls, four numbers each. -/
def Ops (W : World) (v : Value) (n : Nat) (x : Nat → Nat → Int) : Prop :=
  ∃ p c, v = .slice p n c ∧ n ≤ maxLen ∧ (∀ i j, I64 (x i j)) ∧ (0 < n → ∃ g o, p = some ⟨g, o, none⟩ ∧ ∀ i j, i < n → j < 4 → W.cell? ⟨g, o + (i * 4 + j), none⟩ = some (.int .i64 (x i j)))
/-- A list of numbers. -/
def Ints (W : World) (v : Value) (n : Nat) (x : Nat → Int) : Prop :=
  ∃ p c, v = .slice p n c ∧ n ≤ maxLen ∧ (∀ i, I64 (x i)) ∧ (0 < n → ∃ g o, p = some ⟨g, o, none⟩ ∧ ∀ i, i < n → W.cell? ⟨g, o + i, none⟩ = some (.int .i64 (x i)))

set_option maxRecDepth 100000 in
theorem open_ops {r : Reach} {b0 : Nat} {v : Value} {d : DataW H} {ps : List MemPlace} (hval : Value.okWide Tryd.prog W r b0 22 v) (hd : DataW.Trod enc Tryd.prog W base spare held 22 v d ps) :
    ∃ n x, Ops W v n x := by
  obtain ⟨a0, len, cap, rfl⟩ := okWide_slice Tryd.underlying22 hval
  obtain ⟨fuel, hf⟩ := hd
  have hc4 : Tryd.prog.cellsOf 39 = 4 := by kernel_rfl
  have hci : Tryd.prog.cellsOf 3 = 1 := by kernel_rfl
  have hcs' : (Value.slice a0 len cap).cells.toList = [Value.slice a0 len cap] := rfl
  rw [hcs'] at hf
  rcases Go.Deep.open_slice Tryd.underlying22 hf with ⟨hc, _⟩ | ⟨a, len', cap', m, n, D, Pl, hc, hb, hl, hm, hmm, _, hx⟩
  · cases hc
    exact ⟨0, fun _ _ => 0, none, 0, rfl, Nat.zero_le _, fun _ _ => i64_zero, fun h => absurd h (by decide)⟩
  · cases hc
    have hlm : len ≤ m := by rw [hmm]; split <;> omega
    have key : ∀ i, i < len → ∀ j, j < 4 → ∃ z : Int, W.cell? ((a.add (i * 4)).add j) = some (.int .i64 z) ∧ I64 z := by
      intro i hi j hj
      obtain ⟨cs, h1, h2⟩ := hx i (by omega)
      rw [hc4] at h1
      obtain ⟨_, hlc, hcell⟩ := World.cells?_some h1
      obtain ⟨xs, mm, _, _, _, hxl, hel⟩ := DataW.trod_array Tryd.underlying39 h2
      have h3 := hel j hj
      rw [hci, List.getElem?_eq_getElem (by omega)] at h3
      obtain ⟨z, hz, _, wz⟩ := DataW.trod_int Tryd.underlying3 h3
      refine ⟨z, ?_, i64_of_wf wz⟩
      rw [hcell j hj, List.getElem?_eq_getElem (by omega)]
      rw [Nat.mul_one, List.drop_eq_getElem_cons (by omega)] at hz
      have := List.cons.inj (show cs[j] :: _ = _ from hz)
      rw [this.1]
    refine ⟨len, fun i j => if h : i < len ∧ j < 4 then Classical.choose (key i h.1 j h.2) else 0, some a, cap, rfl, by omega, fun i j => ?_, fun hn => ?_⟩
    · by_cases h : i < len ∧ j < 4
      · simp only [dif_pos h]; exact (Classical.choose_spec (key i h.1 j h.2)).2
      · simp only [dif_neg h]; exact i64_zero
    · obtain ⟨g, o, sp⟩ := a
      obtain ⟨z0, hz0, _⟩ := key 0 hn 0 (by omega)
      have hsp : sp = none := World.cell?_spot hz0
      subst hsp
      refine ⟨g, o, rfl, fun i j hi hj => ?_⟩
      simp only [dif_pos (show i < len ∧ j < 4 from ⟨hi, hj⟩)]
      have := (Classical.choose_spec (key i hi j hj)).1
      rw [show (⟨g, o + (i * 4 + j), none⟩ : Addr) = ((⟨g, o, none⟩ : Addr).add (i * 4)).add j from by rw [Addr.add_mid, Addr.add_mid, Nat.add_assoc]]
      exact this
set_option maxRecDepth 100000 in
theorem open_nums {r : Reach} {b0 : Nat} {v : Value} {d : DataW H} {ps : List MemPlace} (hval : Value.okWide Tryd.prog W r b0 52 v) (hd : DataW.Trod enc Tryd.prog W base spare held 52 v d ps) :
    ∃ n x, Ints W v n x := by
  obtain ⟨a0, len, cap, rfl⟩ := okWide_slice Tryd.underlying52 hval
  obtain ⟨fuel, hf⟩ := hd
  have hci : Tryd.prog.cellsOf 3 = 1 := by kernel_rfl
  have hcs' : (Value.slice a0 len cap).cells.toList = [Value.slice a0 len cap] := rfl
  rw [hcs'] at hf
  rcases open_ints Tryd.underlying52 Tryd.underlying3 hci hf with ⟨hc, _⟩ | ⟨a, len', cap', zs, hc, hb, hl, hm, hz, _, hcell, hwf⟩
  · cases hc
    exact ⟨0, fun _ => 0, none, 0, rfl, Nat.zero_le _, fun _ => i64_zero, fun h => absurd h (by decide)⟩
  · cases hc
    have hlm : len ≤ zs.length := by rw [hz]; split <;> omega
    refine ⟨len, fun i => zs.getD i 0, some a, cap, rfl, by omega, fun i => ?_, fun hn => ?_⟩
    · show I64 (zs.getD i 0)
      rcases Nat.lt_or_ge i zs.length with h | h
      · rw [List.getD_eq_getElem?_getD, List.getElem?_eq_getElem h]; exact i64_of_wf (hwf _ (List.getElem_mem h))
      · rw [List.getD_eq_getElem?_getD, List.getElem?_eq_none h]; exact i64_zero
    · obtain ⟨g, o, sp⟩ := a
      have hsp : sp = none := World.cell?_spot (hcell 0 (by omega))
      subst hsp
      exact ⟨g, o, rfl, fun i hi => by have := hcell i (by omega); rw [Addr.add_mid] at this; exact this⟩
end
end Go.Proofs.YtjamakapkpkfeaaDoor
