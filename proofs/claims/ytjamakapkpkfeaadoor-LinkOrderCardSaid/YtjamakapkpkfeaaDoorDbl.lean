/- Contract of the law LinkDoubled. -/
import Derived.Test.YtjamakapkpkfeaaDoorAgain
import Derived.Test.YtjamakapkpkfeaaDoorOutP
namespace Go.Proofs.YtjamakapkpkfeaaDoor
open Go.RowKit Go.Shelf Sha

theorem pickL3_any (c : Int) (hc : I64 c) (w : World) : Calls Tryd.prog 18 #[.int .i64 c, .int .i64 3] w fun e w' => e = .returned (.int .i64 (pickN c 3 : Nat)) ∧ w' = w := pickL_any c 3 (by decide) (by decide) hc w
theorem ackd_self {L : Lk} {p : Pkt} (h : p.ack.toNat ≤ L.acked) : L.ackd p = L := by
  cases L
  unfold Lk.ackd
  dsimp only at h ⊢
  rw [Nat.max_eq_left h]
/-- A packet that arrives again changes nothing. -/
theorem Net.again {S R : Lk} {p : Pkt} (h : Net S R) (hs : Sound S p) (hi : R.ins < 1000000) : (R.inn p).1.Takes p ∧ (R.inn p).1.inn p = ((R.inn p).1, []) := by
  obtain ⟨hN, hF, hT, _, hH, _⟩ := h.inn hs hi
  have htk := hs.takes hN.okA hN.okB hN.keyA hN.ba.got
  refine ⟨htk, ?_⟩
  have ha := hT.acked
  have hn := hN.ab.next
  generalize (R.inn p).1 = L at *
  have hf : ¬ L.Fits p := fun hf => by
    have h1 := hf.2.1
    rcases hH with h2 | h2
    · omega
    · exact h2 hf.1
  unfold Lk.inn
  rw [if_pos htk, show L.stored p = L from by unfold Lk.stored; rw [if_neg hf]; exact ackd_self (by omega)]
  exact drain_none hn

set_option maxRecDepth 100000 in
set_option maxHeartbeats 4000000 in
theorem linkDoubled_any (w : World) (ht : Tab w) {v : Value} {n : Nat} {x : Nat → Nat → Int} (hops : Ops w v n x) (which times : Int) (hwh : I64 which) (htm : I64 times) :
    Calls Tryd.prog 8 #[v, .int .i64 which, .int .i64 times] w fun e w' => e = .returned (.bool true) ∧ Ext w w' := by
  have HO := Lib.hid hops
  obtain ⟨p, c, rfl, _⟩ := hops
  have HB1 := Lib.hid (busy_any w ht HO.out)
  have Hnet := Lib.hid (busy_net x (min n 12) (by omega)).1
  have Hsm := Lib.hid (busy_net x (min n 12) (by omega)).2
  have hm12 : min n 12 ≤ 12 := by omega
  go_enter Tryd.func8, Tryd.ntmps8
  generalize busyM x (min n 12) = M at *
  go_wp2_with (go_at_call 39; with_reducible refine HB1.out.mono ?_; rintro e w1 ⟨E, fp, rfl, hE1, hT1⟩)
  have ht1 := ht.ext hE1
  clear HB1
  go_wp2_with (go_at_call 14; refine (sane_any _ ht1).mono ?_; rintro e w3 ⟨rfl, hE3⟩)
  have hT1 := Lib.hid (hT1.ext hE3)
  have ht3 := Lib.hid (ht1.ext hE3)
  have hEw := hE1.trans hE3
  clear hE1 hE3 ht1
  have hN : Net (M 0) (M 1) := Hnet.out
  have hle := out_le (M 0)
  have hpos := out_pos _ hN.okA
  have hins : (M 1).ins < 1000000 := by have := Hsm.out.ins 1 (by omega); omega
  have U0 := Lib.hid (outS_any (hT1.out.here 0 (by omega)) ht3.out)
  have Hgood : Hid (∀ (k : Nat) (pk : Pkt), (M 0).out[k]? = some pk → (M 1).Takes pk ∧ ((M 1).inn pk).1.Takes pk ∧ ((M 1).inn pk).1.inn pk = (((M 1).inn pk).1, []) ∧ ((M 1).inn pk).1.Ok ∧ ((M 1).inn pk).1.ins < 1000000) := Lib.hid (fun k pk hk => by
    have hs := sound_out hN.okA (List.mem_of_getElem? hk)
    have h1 := hN.again hs hins
    obtain ⟨hN', _, hT', _⟩ := hN.inn hs hins
    exact ⟨hs.takes hN.okA hN.okB hN.keyA hN.ba.got, h1.1, h1.2, hN'.okB, by have := hT'.ins; have := Hsm.out.ins 1 (by omega); omega⟩)
  clear hN Hnet Hsm
  generalize (M 0).out = out at *
  generalize hll : out.length = ol at *
  have Hll := Lib.hid hll
  clear hll
  have HP := Lib.hid (pickL_any which ol (by omega) (by omega) hwh)
  have hpk := pickN_lt which (n := ol) (by omega)
  generalize pickN which ol = k at *
  go_wp2_with (go_at_call 22; with_reducible refine U0.out.mono ?_; rintro e w4 ⟨p4, c4, rfl, hS4, hE4, _⟩)
  obtain ⟨pk, hpk2⟩ : ∃ pk, out[k]? = some pk := ⟨_, List.getElem?_eq_getElem (by rw [Hll.out]; exact hpk)⟩
  obtain ⟨g1, g2, g3, g4, g5⟩ := Hgood.out k pk hpk2
  have hS4' := hS4
  obtain ⟨_, _, _, h1, h2⟩ := hS4'
  obtain ⟨gs, h3, _⟩ := h2 (by omega)
  cases h1; subst h3
  clear h2
  have hc := hS4.pkt' (l := out) (show 0 < ol by omega) hpk2
  have HI1 := Lib.hid (fun W (hW : EndAt W (fp 1) (E 1) (M 1)) hW2 => inn_any hW hW2 hins pk g1)
  have HI2 := Lib.hid (fun W (hW : EndAt W (fp 1) (E 1) ((M 1).inn pk).1) hW2 => inn_any hW hW2 g5 pk g2)
  rw [g3] at HI2
  clear g1 g2 g3 hpk2 Hgood
  have hA4 := hT1.out.ext hE4
  have hb1 : EndAt w4 (fp 1) (E 1) (M 1) := hA4.here 1 (by omega)
  have hlow1 : ∀ j, fp 1 j → w.heap.size ≤ j := fun j hj => hT1.out.low 1 j (by omega) hj
  have hlt1 := hb1.lows
  obtain ⟨ps, pa, pb, pz⟩ := pk
  unfold Pkt.val Pkt.cells at *
  generalize ((M 1).inn ⟨ps, pa, pb, pz⟩).1 = B at *
  have o0 : w4.cell? ⟨gs, k * 4, none⟩ = some (.int .i64 ps) := hc 0 (by decide)
  have o1 : w4.cell? ⟨gs, k * 4 + 1, none⟩ = some (.int .i64 pa) := hc 1 (by decide)
  have o2 : w4.cell? ⟨gs, k * 4 + 2, none⟩ = some (.string pb) := hc 2 (by decide)
  have o3 : w4.cell? ⟨gs, k * 4 + 3, none⟩ = some (.string pz) := hc 3 (by decide)
  have hr4 := Row.new w4 24 [.int .i64 ps, .int .i64 pa, .string pb, .string pz]
  have hE5 := (Ext.refl w4).alloc (.cells #[.int .i64 ps, .int .i64 pa, .string pb, .string pz] 24)
  have hb5 := hb1.ext hE5
  have ht5 := (ht3.out.ext hE4).ext hE5
  have n0 : ¬ fp 1 0 := fun h => by have := hlow1 0 h; have := ht.pos; omega
  have n4 : ¬ fp 1 w4.heap.size := fun h => by have := hlt1 _ h; omega
  go_wp2_with (first
    | (go_at_call 18; with_reducible refine (HP.out _).mono ?_; rintro e w5 ⟨rfl, hw⟩; subst w5)
    | (go_at_call 26; with_reducible refine (HI1.out _ hb5 ht5).mono ?_; rintro e w6 ⟨v6, rfl, ho6, hm6, hB6⟩; have hr6 := hm6.row hr4 n4; have ht6 := hm6.tab ht5 n0))
  obtain ⟨p6, c6, rfl, _⟩ := ho6.form'
  have hEw6 : Ext w w6 := ((hEw.trans hE4).trans hE5).mod hm6 hlow1
  clear HI1 hb5 ht5 hE5 hE4 hEw hm6 hb1 hA4 o0 o1 o2 o3 hc hS4 hT1 ht3 U0 HP ho6
  have b0 : ∀ W, Ext w6 W → EndAt W (fp 1) (E 1) B := fun W e => hB6.ext e
  have q0 := fun W e => waiting_any (b0 W e)
  have r0 := fun W e => received_any (b0 W e)
  have u0 := fun W e => outS_any (b0 W e) (ht6.ext e)
  have HQ := Lib.hid q0
  have HR := Lib.hid r0
  have HU := Lib.hid u0
  have hBle := out_le B
  clear q0 r0 u0 b0
  have hX : Ext w6 w6 := Ext.refl _
  go_wp2_with (first
    | (go_at_call 33; with_reducible refine (HQ.out _ hX).mono ?_; rintro e w7 ⟨rfl, hE7⟩; have hX := hX.trans hE7; clear hE7)
    | (go_at_call 35; with_reducible refine (HR.out _ hX).mono ?_; rintro e w7 ⟨rfl, hE7⟩; have hX := hX.trans hE7; clear hE7))
  go_wp2_with (go_at_call 22; with_reducible refine (HU.out _ hX).mono ?_; rintro e w8 ⟨p8, c8, rfl, hS8, hE8, hg8⟩)
  have hX8 := hX.trans hE8
  have HT := Lib.hid (pickL3_any times htm)
  have ht3 := pickN_lt times (n := 3) (by decide)
  generalize pickN times 3 = tm at *
  have hr8 := hr6.ext hX8
  have hB8 := Lib.hid (hB6.ext hX8)
  have hEw8 := hEw6.trans hX8
  have hgf : ∀ g, (Value.slice p8 B.out.length c8).ownBlock = some g → ¬ fp 1 g := fun g hg hf => by have := hg8 g hg; have := (hB6.ext hX).lows g hf; omega
  clear hr6 hEw6 hg8 hX
  go_loopw [17] (fun i wr => ∃ j : Nat, j ≤ tm + 1 ∧ i = .int .i64 j ∧ Hid (EndAt wr (fp 1) (E 1) B) ∧ Row wr w4.heap.size 24 [.int .i64 ps, .int .i64 pa, .string pb, .string pz] ∧ Hid (Sl wr (.slice p8 B.out.length c8) 4 B.out.length (pcells B.out)) ∧ Ext w wr) (fun i _ => tm + 1 - (intOf i).toNat)
  case atStart => exact ⟨0, Nat.zero_le _, rfl, hB8, hr8, Lib.hid hS8, hEw8⟩
  case round =>
    clear hB8 hr8 hS8 hEw8
    obtain ⟨j, hj, rfl, hB, hr, hS, hE⟩ := hrel
    by_cases hlt : j < tm + 1
    · have o0 := hr.cell 0 (by show 0 < 4; decide)
      have o1 := hr.cell 1 (by show 1 < 4; decide)
      have o2 := hr.cell 2 (by show 2 < 4; decide)
      have o3 := hr.cell 3 (by show 3 < 4; decide)
      go_wp2_with (first
        | (go_at_call 18; with_reducible refine (HT.out _).mono ?_; rintro e w9 ⟨rfl, hw⟩; subst w9)
        | (go_at_call 26; with_reducible refine (HI2.out _ hB.out (ht.ext hE)).mono ?_; rintro e w9 ⟨v9, rfl, ho9, hm9, hB9⟩; have hr9 := hm9.row hr n4; have hS9 := Lib.hid (hS.out.mod hm9 hgf); have hE9 := hE.mod hm9 hlow1; obtain ⟨p9, c9, rfl, _⟩ := ho9.form'))
      exact ⟨⟨j + 1, by omega, by go_num, Lib.hid hB9, hr9, hS9, hE9⟩, by simp [intOf]; omega⟩
    · have hj' : j = tm + 1 := by omega
      subst hj'
      have HQ2 := Lib.hid (fun W e => waiting_any (hB.out.ext (W' := W) e))
      have HR2 := Lib.hid (fun W e => received_any (hB.out.ext (W' := W) e))
      have HU2 := Lib.hid (fun W e => outS_any (hB.out.ext (W' := W) e) ((ht.ext hE).ext e))
      have hX : Ext wr wr := Ext.refl _
      go_wp2_with (first
        | (go_at_call 18; with_reducible refine (HT.out _).mono ?_; rintro e w9 ⟨rfl, hw⟩; subst w9)
        | (go_at_call 33; with_reducible refine (HQ2.out _ hX).mono ?_; rintro e w7 ⟨rfl, hE7⟩; have hX := hX.trans hE7; clear hE7)
        | (go_at_call 35; with_reducible refine (HR2.out _ hX).mono ?_; rintro e w7 ⟨rfl, hE7⟩; have hX := hX.trans hE7; clear hE7))
      go_wp2_with (go_at_call 22; with_reducible refine (HU2.out _ hX).mono ?_; rintro e wa ⟨pa', ca', rfl, hSa, hEa, _⟩)
      have HSm := Lib.hid (same_any _ _ hSa ((hS.out.ext hX).ext hEa) (by omega) (by omega))
      go_wp2_with (go_at_call 23; with_reducible refine HSm.out.mono ?_; rintro e wb ⟨rfl, hEb⟩; rw [decide_eq_true rfl])
      all_goals first
        | (go_ret; exact ⟨by kernel_rfl, ((hE.trans hX).trans hEa).trans hEb⟩)
        | trace_state
end Go.Proofs.YtjamakapkpkfeaaDoor
