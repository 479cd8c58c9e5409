/- Two ends after some calls that integers determine: contract of busy. -/
import Derived.Test.YtjamakapkpkfeaaDoorTwo
import Derived.Test.YtjamakapkpkfeaaDoorOpen
namespace Go.Proofs.YtjamakapkpkfeaaDoor
open Go.RowKit Go.Shelf Sha

theorem upd_upd {α : Type} (f : Nat → α) (n : Nat) (x y : α) : upd (upd f n x) n y = upd f n y := by
  funext k; unfold upd; split <;> rfl
theorem upd_id {α : Type} (f : Nat → α) (n : Nat) : upd f n (f n) = f := by
  funext k; unfold upd; split
  · rename_i h; rw [h]
  · rfl
theorem Ops.cell {W : World} {n : Nat} {x : Nat → Nat → Int} {g o c : Nat} (h : Ops W (.slice (some ⟨g, o, none⟩) n c) n x) {i j : Nat} (hi : i < n) (hj : j < 4) : W.cell? ⟨g, o + i * 4 + j, none⟩ = some (.int .i64 (x i j)) := by
  obtain ⟨p, c', he, _, _, h2⟩ := h
  obtain ⟨g', o', rfl, h3⟩ := h2 (by omega)
  cases he
  rw [Nat.add_assoc]; exact h3 i j hi hj
theorem Ops.ext {W W' : World} {v : Value} {n : Nat} {x : Nat → Nat → Int} (h : Ops W v n x) (e : Ext W W') : Ops W' v n x := by
  obtain ⟨p, c, rfl, h1, h2, h3⟩ := h
  refine ⟨p, c, rfl, h1, h2, fun hn => ?_⟩
  obtain ⟨g, o, rfl, h4⟩ := h3 hn
  exact ⟨g, o, rfl, fun i j hi hj => e.cell (h4 i j hi hj)⟩
theorem Sl.mod {W W' : World} {fq : Nat → Prop} {v : Value} {size n : Nat} {xs : List Value} (h : Sl W v size n xs) (hm : Mod fq W W') (hb : ∀ g, v.ownBlock = some g → ¬ fq g) : Sl W' v size n xs := by
  obtain ⟨h1, p, c, rfl, h2⟩ := h
  refine ⟨h1, p, c, rfl, fun hn => ?_⟩
  obtain ⟨g, rfl, h3⟩ := h2 hn
  exact ⟨g, rfl, fun j u hu => hm.cell (h3 j u hu) (hb g rfl)⟩
theorem Sl.pkt' {W : World} {g n c : Nat} {l : List Pkt} (h : Sl W (.slice (some ⟨g, 0, none⟩) n c) 4 n (pcells l)) (hn : 0 < n) {k : Nat} {pk : Pkt} (hk : l[k]? = some pk) (j : Nat) (hj : j < 4) : W.cell? ⟨g, k * 4 + j, none⟩ = some (pk.cells.getD j undef) := by
  obtain ⟨hlt, he⟩ := List.getElem?_eq_some_iff.1 hk
  rw [← he]; exact h.pkt hn k hlt j hj
/-- A block that no end has. -/
def Away (fp : Nat → Nat → Prop) (b : Nat) : Prop := ∀ n, n < 2 → ¬ fp n b
theorem Away.set {fp : Nat → Nat → Prop} {b n : Nat} {fq : Nat → Prop} {W : World} (h : Away fp b) (hn : n < 2) (hb : b < W.heap.size) (hf : ∀ k, fq k → fp n k ∨ W.heap.size ≤ k) : Away (upd fp n fq) b := by
  intro m hm hk
  by_cases hmn : m = n
  · subst hmn
    rw [upd_same] at hk
    rcases hf b hk with h1 | h1
    · exact h m hm h1
    · omega
  · rw [upd_ne _ _ hmn] at hk; exact h m hm hk
theorem Two.away {W : World} {base : Nat} {fp : Nat → Nat → Prop} {E : Nat → Nat} {L : Nat → Lk} (h : Two W base fp E L) {b : Nat} (hb : W.heap.size ≤ b) : Away fp b := fun n hn hk => by have := (h.here n hn).lows b hk; omega

theorem mask_eq (c : Int) (j : Nat) : ((((pickN c 16 : Nat) : Int) / 2 ^ (j % 4)).tmod 2 == 0) = mask c j := by
  unfold mask
  have h1 : ((pickN c 16 : Nat) : Int) / 2 ^ (j % 4) = ((pickN c 16 / 2 ^ (j % 4) : Nat) : Int) := by rw [Int.natCast_ediv]; congr 1
  rw [h1, show (2 : Int) = ((2 : Nat) : Int) from rfl, ← Int.ofNat_tmod]
  generalize pickN c 16 / 2 ^ (j % 4) % 2 = r
  cases r <;> rfl
theorem pickL2_any (c : Int) (hc : I64 c) (w : World) : Calls Tryd.prog 18 #[.int .i64 c, .int .i64 2] w fun e w' => e = .returned (.int .i64 (pickN c 2 : Nat)) ∧ w' = w := pickL_any c 2 (by decide) (by decide) hc w
theorem pickL16_any (c : Int) (hc : I64 c) (w : World) : Calls Tryd.prog 18 #[.int .i64 c, .int .i64 16] w fun e w' => e = .returned (.int .i64 (pickN c 16 : Nat)) ∧ w' = w := pickL_any c 16 (by decide) (by decide) hc w

set_option maxRecDepth 100000 in
set_option maxHeartbeats 4000000 in
theorem busy_any (w : World) (ht : Tab w) {v : Value} {n : Nat} {x : Nat → Nat → Int} (hops : Ops w v n x) :
    Calls Tryd.prog 39 #[v] w fun e w' => ∃ E fp, e = .returned (.tuple #[.pointer (some ⟨E 0, 0, none⟩), .pointer (some ⟨E 1, 0, none⟩), .bool true]) ∧ Ext w w' ∧ Two w' w.heap.size fp E (busyM x (min n 12)) := by
  have HO := Lib.hid hops
  obtain ⟨p, c, rfl, hnm, hx64, _⟩ := hops
  simp only [maxLen] at hnm
  have Hx := Lib.hid hx64
  clear hx64
  go_enter Tryd.func39, Tryd.ntmps39
  go_wp2_with (go_at_call 13; refine (pair_any _).mono ?_; rintro e w1 ⟨E, fp, rfl, hE1, hT⟩)
  have hr := Row.new w1 25 [.pointer (some ⟨E 0, 0, none⟩), .pointer (some ⟨E 1, 0, none⟩)]
  have hT2 := Lib.hid (hT.ext ((Ext.refl w1).alloc (.cells [.pointer (some ⟨E 0, 0, none⟩), .pointer (some ⟨E 1, 0, none⟩)].toArray 25)))
  have hA := Lib.hid (hT.away (Nat.le_refl _))
  have hE2 := hE1.alloc (.cells [.pointer (some ⟨E 0, 0, none⟩), .pointer (some ⟨E 1, 0, none⟩)].toArray 25)
  have hB : w.heap.size ≤ w1.heap.size := hE1.size
  clear hT
  go_loopw [9] (fun i wr => ∃ (k : Nat) (fq : Nat → Nat → Prop), k ≤ min n 12 ∧ i = .int .i64 k ∧ Hid (Two wr w.heap.size fq E (busyM x k)) ∧ Row wr w1.heap.size 25 [.pointer (some ⟨E 0, 0, none⟩), .pointer (some ⟨E 1, 0, none⟩)] ∧ Hid (Away fq w1.heap.size) ∧ Ext w wr) (fun i _ => min n 12 - (intOf i).toNat)
  case atStart => exact ⟨0, fp, Nat.zero_le _, rfl, hT2, hr, hA, hE2⟩
  case round =>
    clear hT2 hr hA hE2
    obtain ⟨k, fq, hk, rfl, hT, hr, hA, hE⟩ := hrel
    by_cases hlt : k < min n 12
    · have hn1 : k < n := by omega
      have hn2 : k < 12 := by omega
      obtain ⟨_, _, h1, _, _, h2⟩ := HO.out
      obtain ⟨g, o, h3, _⟩ := h2 (by omega)
      cases h1; subst h3
      clear h2
      have hO2 := HO.out.ext hE
      have c0 : wr.cell? ⟨g, o + k * 4, none⟩ = some (.int .i64 (x k 0)) := hO2.cell (j := 0) hn1 (by omega)
      have c1 : wr.cell? ⟨g, o + k * 4 + 1, none⟩ = some (.int .i64 (x k 1)) := hO2.cell (j := 1) hn1 (by omega)
      have hc2 : wr.cell? ⟨g, o + k * 4 + 2, none⟩ = some (.int .i64 (x k 2)) := hO2.cell (j := 2) hn1 (by omega)
      have hc3 : wr.cell? ⟨g, o + k * 4 + 3, none⟩ = some (.int .i64 (x k 3)) := hO2.cell (j := 3) hn1 (by omega)
      clear hO2
      have HP0 := Lib.hid (pickL2_any (x k 0) (Hx.out k 0))
      have HP1 := Lib.hid (pickL2_any (x k 1) (Hx.out k 1))
      have HP3 := Lib.hid (pickL16_any (x k 3) (Hx.out k 3))
      have HBd := Lib.hid (body_any (x k 2) (Hx.out k 2))
      have hpn := pickN_lt (x k 0) (n := 2) (by decide)
      have hpb2 := pickN_lt (x k 1) (n := 2) (by decide)
      have Hstep : Hid (busyM x (k + 1) = busyStep (busyM x k) (x k)) := Lib.hid rfl
      have Hnet := Lib.hid (busy_net x k (by omega))
      have Hdef : Hid (busyStep (busyM x k) (x k) = if pickN (x k 1) 2 = 0 then upd (busyM x k) (pickN (x k 0) 2) ((busyM x k (pickN (x k 0) 2)).send (bodyOf (x k 2)))
          else upd (busyM x k) (1 - pickN (x k 0) 2) (lossy (mask (x k 3)) (busyM x k (pickN (x k 0) 2)).out (busyM x k (1 - pickN (x k 0) 2)) (busyM x k (pickN (x k 0) 2)).out.length).1) := Lib.hid rfl
      generalize pickN (x k 0) 2 = pn at *
      generalize pickN (x k 1) 2 = pb at *
      have hce : wr.cell? ⟨w1.heap.size, pn, none⟩ = some (.pointer (some ⟨E pn, 0, none⟩)) := by
        rcases (show pn = 0 ∨ pn = 1 by omega) with rfl | rfl
        · exact hr.cell 0 (by show 0 < 2; decide)
        · exact hr.cell 1 (by show 1 < 2; decide)
      by_cases hpb : pb = 0
      · subst hpb
        go_wp2_with (first
          | (go_at_call 18; with_reducible refine (HP0.out _).mono ?_; rintro e w2 ⟨rfl, hw⟩; subst w2)
          | (go_at_call 18; with_reducible refine (HP1.out _).mono ?_; rintro e w2 ⟨rfl, hw⟩; subst w2))
        have f2 : ∀ u, (wplus wr u).cell? ⟨g, o + k * 4 + 2, none⟩ = some (.int .i64 (x k 2)) := fun u => (ext_wplus wr u).cell hc2
        have fe : ∀ u, (wplus wr u).cell? ⟨w1.heap.size, pn, none⟩ = some (.pointer (some ⟨E pn, 0, none⟩)) := fun u => (ext_wplus wr u).cell hce
        have hso : sendOk (busyM x k pn) (bodyOf (x k 2)) := ⟨by have := bodyOf_size (x k 2); omega, by have := Hnet.out.2.sent pn hpn; omega⟩
        have HSo := Lib.hid hso
        clear hso
        refine wp_region_plan [10] (.step 0 .pure (.step 1 .pure (.step 2 .pure (.step 3 .read (.step 4 .pure (.step 5 .pure (.step 6 .pure (.step 7 .pure (.step 8 .read (.step 9 (.eff false) (.step 10 (.eff true) (.step 11 .pure (.fin))))))))))))) (by kernel_rfl) (by kernel_rfl) (Ext.refl wr) ?_
        simp only [pickOps, List.getD_cons_zero, List.getD_cons_succ]
        repeat (first
          | (refine pure_n rfl ?_; intro N hN; go_big_quiet_op; go_big_quiet_on)
          | (refine read_n rfl ?_; intro N hN; go_big_quiet_op; go_big_quiet_on)
          | (refine pure_g rfl rfl rfl rfl ?_; intro N hN; go_big_quiet_op; go_big_quiet_on)
          | (refine read_g rfl rfl rfl rfl ?_; intro N hN; go_big_quiet_op; go_big_quiet_on)
          | (refine skip_g rfl rfl rfl rfl ?_; simp only [Act.put, List.setIfInBounds_toArray, List.set_cons_zero, List.set_cons_succ]))
        refine eff_n rfl ?_
        intro N hN
        go_big_op
        refine (HBd.out _).mono ?_
        rintro e w2 ⟨rfl, hE2⟩
        have hX := (Ext.refl wr).drew.trans hE2
        refine hN _ wr w2 (fun _ => Ext.refl _) hX ?_
        repeat (first
          | (refine pure_n rfl ?_; intro N hN; go_big_quiet_op; go_big_quiet_on)
          | (refine read_n rfl ?_; intro N hN; go_big_quiet_op; go_big_quiet_on)
          | (refine pure_g rfl rfl rfl rfl ?_; intro N hN; go_big_quiet_op; go_big_quiet_on)
          | (refine read_g rfl rfl rfl rfl ?_; intro N hN; go_big_quiet_op; go_big_quiet_on)
          | (refine skip_g rfl rfl rfl rfl ?_; simp only [Act.put, List.setIfInBounds_toArray, List.set_cons_zero, List.set_cons_succ]))
        refine eff_n rfl ?_
        intro N hN
        go_big_op
        refine (send_any ((hT.out.ext hX).here pn hpn) _ HSo.out).mono ?_
        rintro e w3 ⟨rfl, hm3, fs, hS3, hf3⟩
        refine hN _ w3 w3 (fun h => by cases h) (Ext.refl _) ?_
        repeat (first
          | (refine pure_n rfl ?_; intro N hN; go_big_quiet_op; go_big_quiet_on)
          | (refine read_n rfl ?_; intro N hN; go_big_quiet_op; go_big_quiet_on)
          | (refine pure_g rfl rfl rfl rfl ?_; intro N hN; go_big_quiet_op; go_big_quiet_on)
          | (refine read_g rfl rfl rfl rfl ?_; intro N hN; go_big_quiet_op; go_big_quiet_on)
          | (refine skip_g rfl rfl rfl rfl ?_; simp only [Act.put, List.setIfInBounds_toArray, List.set_cons_zero, List.set_cons_succ]))
        refine plan_nil ?_
        go_wp2
        have hT3 := (hT.out.ext hX).set hpn hm3 hS3 hf3
        have hlw : ∀ j, fq pn j → w.heap.size ≤ j := fun j hj => hT.out.low pn j hpn hj
        refine ⟨⟨k + 1, _, by omega, by go_num, Lib.hid (by rw [Hstep.out, Hdef.out, if_pos trivial]; exact hT3), ?_, Lib.hid (hA.out.set hpn (by have := hr.lt; have := hX.size; omega) hf3), (hE.trans hX).mod hm3 hlw⟩, by simp [intOf]; omega⟩
        exact hm3.row (hr.ext hX) (hA.out pn hpn)
      · obtain rfl : pb = 1 := by omega
        have Hb : Hid (busyM x (k + 1) = upd (busyM x k) (1 - pn) (lossy (mask (x k 3)) (busyM x k pn).out (busyM x k (1 - pn)) (busyM x k pn).out.length).1) := Lib.hid (by rw [Hstep.out, Hdef.out]; exact if_neg (by decide))
        clear hpb Hdef Hstep
        have hol := out_le (busyM x k pn)
        go_wp2_with (first
          | (go_at_call 18; with_reducible refine (HP0.out _).mono ?_; rintro e w2 ⟨rfl, hw⟩; subst w2)
          | (go_at_call 18; with_reducible refine (HP1.out _).mono ?_; rintro e w2 ⟨rfl, hw⟩; subst w2)
          | (go_at_call 22; go_loud (refine (out_any (hT.out.here pn hpn) (ht.ext hE)).mono ?_; rintro e w2 ⟨vo, rfl, hoo, hE2⟩; have hSo := Lib.hid (toOwn hoo).sl; have hgo : ∀ g, vo.ownBlock = some g → wr.heap.size ≤ g := (fun g hg => ((toOwn hoo).lt g hg).1); obtain ⟨po, co, rfl, _⟩ := (toOwn hoo).form')))
        clear hoo
        have hT2 := Lib.hid (hT.out.ext hE2)
        have hr2 := hr.ext hE2
        have hEw := hE.trans hE2
        have hnf : ∀ g, (Value.slice po (busyM x k pn).out.length co).ownBlock = some g → ¬ fq (1 - pn) g := fun g hg hf => by
          have := hgo g hg; have := (hT.out.here (1 - pn) (by omega)).lows g hf; omega
        have hlw : ∀ j, fq (1 - pn) j → w.heap.size ≤ j := fun j hj => hT.out.low (1 - pn) j (by omega) hj
        have Hls := Lib.hid (fun (j : Nat) (hj : j ≤ 4) => lossy_spec (c := mask (x k 3)) (Hnet.out.1.at hpn) (fun p hp => sound_out (Hnet.out.1.at hpn).okA hp) j (by have := Hnet.out.2.ins (1 - pn) (by omega); omega))
        have Hnt := Lib.hid (Hnet.out.1.at hpn)
        have Hin := Lib.hid (Hnet.out.2.ins (1 - pn) (by omega))
        clear hT hr hgo Hnet hE
        generalize hout : (busyM x k pn).out = out at *
        generalize hol2 : out.length = ol at *
        go_loopw [12] (fun i wr2 => ∃ j : Nat, j ≤ ol ∧ i = .int .i64 j ∧ Hid (Two wr2 w.heap.size fq E (upd (busyM x k) (1 - pn) (lossy (mask (x k 3)) out (busyM x k (1 - pn)) j).1)) ∧ Hid (Sl wr2 (.slice po ol co) 4 ol (pcells out)) ∧ Row wr2 w1.heap.size 25 [.pointer (some ⟨E 0, 0, none⟩), .pointer (some ⟨E 1, 0, none⟩)] ∧ Ext w wr2) (fun i _ => ol - (intOf i).toNat)
        case atStart => exact ⟨0, Nat.zero_le _, rfl, Lib.hid (by rw [lossy_zero]; show Two _ _ _ _ (upd (busyM x k) (1 - pn) (busyM x k (1 - pn))); rw [upd_id]; exact hT2.out), hSo, hr2, hEw⟩
        case round =>
          clear hT2 hSo hr2 hEw
          rename_i wrO _ _
          obtain ⟨j, hj, rfl, hT, hSo, hr, hE⟩ := hrel
          by_cases hlt2 : j < ol
          · have hc3 : wr.cell? ⟨g, o + k * 4 + 3, none⟩ = some (.int .i64 (x k 3)) := (HO.out.ext hE).cell (j := 3) hn1 (by omega)
            have hm := mask_eq (x k 3) j
            have hR := Lib.hid (Hls.out j (by omega))
            have hlen : out.length = ol := by have := hSo.out.1; rw [pcells_length] at this; omega
            obtain ⟨pk, hjo⟩ : ∃ pk, out[j]? = some pk := ⟨_, List.getElem?_eq_getElem (by omega)⟩
            obtain ⟨_, _, _, h1, h2⟩ := hSo.out
            obtain ⟨g2, h3, _⟩ := h2 (by omega)
            cases h1; subst h3
            clear h2
            have hpk := hSo.out.pkt' (l := out) (show 0 < ol by omega) hjo
            cases hmk : mask (x k 3) j with
            | false =>
              rw [hmk] at hm
              have hsk := lossy_skip (out := out) (R := busyM x k (1 - pn)) (k := j) hmk
              have hT' := Lib.hid (show Two wr w.heap.size fq E (upd (busyM x k) (1 - pn) (lossy (mask (x k 3)) out (busyM x k (1 - pn)) (j + 1)).1) from by rw [hsk]; exact hT.out)
              clear hmk hsk hjo hpk
              go_wp2_with (go_at_call 18; with_reducible refine (HP3.out _).mono ?_; rintro e w2 ⟨rfl, hw⟩; subst w2)
              exact ⟨⟨j + 1, by omega, by go_num, hT', hSo, hr, hE⟩, by simp [intOf]; omega⟩
            | true =>
              rw [hmk] at hm
              have htk := lossy_take (R := busyM x k (1 - pn)) hmk hjo
              clear hmk
              have hpm : pk ∈ out := List.mem_of_getElem? hjo
              have hce1 : wr.cell? ⟨w1.heap.size, 1 - pn, none⟩ = some (.pointer (some ⟨E (1 - pn), 0, none⟩)) := by
                rcases (show pn = 0 ∨ pn = 1 by omega) with rfl | rfl
                · exact hr.cell 1 (by show 1 < 2; decide)
                · exact hr.cell 0 (by show 0 < 2; decide)
              have hso := sound_out Hnt.out.okA (by rw [hout]; exact hpm)
              have hR1 := hR.out.1.net
              have htks := hso.takes hR1.okA hR1.okB hR1.keyA hR1.ba.got
              have Hinn := fun W hW hW2 => inn_any (w := W) (fp := fq (1 - pn)) (E := E (1 - pn)) hW hW2 (by have := hR.out.2.1; have := Hin.out; omega) pk htks
              clear hjo hpm hR1 hso htks
              obtain ⟨ps, pa, pb, pz⟩ := pk
              unfold Pkt.val Pkt.cells at *
              have p0 : ∀ u, (wplus wr u).cell? ⟨g2, j * 4, none⟩ = some (.int .i64 ps) := fun u => (ext_wplus wr u).cell (hpk 0 (by decide))
              have p1 : ∀ u, (wplus wr u).cell? ⟨g2, j * 4 + 1, none⟩ = some (.int .i64 pa) := fun u => (ext_wplus wr u).cell (hpk 1 (by decide))
              have p2 : ∀ u, (wplus wr u).cell? ⟨g2, j * 4 + 2, none⟩ = some (.string pb) := fun u => (ext_wplus wr u).cell (hpk 2 (by decide))
              have p3 : ∀ u, (wplus wr u).cell? ⟨g2, j * 4 + 3, none⟩ = some (.string pz) := fun u => (ext_wplus wr u).cell (hpk 3 (by decide))
              have e1 : ∀ u, (wplus wr u).cell? ⟨w1.heap.size, 1 - pn, none⟩ = some (.pointer (some ⟨E (1 - pn), 0, none⟩)) := fun u => (ext_wplus wr u).cell hce1
              have HInn := Lib.hid Hinn
              have Htk := Lib.hid htk
              clear hpk Hinn htk
              go_wp2_with (go_at_call 18; with_reducible refine (HP3.out _).mono ?_; rintro e w2 ⟨rfl, hw⟩; subst w2)
              refine wp_region_plan [9] (.step 0 .pure (.step 1 .pure (.step 2 .pure (.step 3 .pure (.step 4 .read (.step 5 .pure (.step 6 .pure (.step 7 .pure (.step 8 .read (.step 9 (.eff true) (.step 10 .pure (.step 11 .pure (.step 12 .pure (.step 13 .pure (.step 14 .pure (.fin)))))))))))))))) (by kernel_rfl) (by kernel_rfl) (Ext.refl wr) ?_
              simp only [pickOps, List.getD_cons_zero, List.getD_cons_succ]
              repeat (first
                | (refine pure_n rfl ?_; intro N hN; go_big_quiet_op; go_big_quiet_on)
                | (refine read_n rfl ?_; intro N hN; go_big_quiet_op; go_big_quiet_on)
                | (refine pure_g rfl rfl rfl rfl ?_; intro N hN; go_big_quiet_op; go_big_quiet_on)
                | (refine read_g rfl rfl rfl rfl ?_; intro N hN; go_big_quiet_op; go_big_quiet_on)
                | (refine skip_g rfl rfl rfl rfl ?_; simp only [Act.put, List.setIfInBounds_toArray, List.set_cons_zero, List.set_cons_succ]))
              have hTd := hT.out.ext (Ext.refl wr).drew
              have hEA : EndAt wr.drew (fq (1 - pn)) (E (1 - pn)) (lossy (mask (x k 3)) out (busyM x k (1 - pn)) j).1 := by
                have := hTd.here (1 - pn) (by omega)
                rw [upd_same] at this; exact this
              refine eff_n rfl ?_
              intro N hN
              go_big_op
              refine (HInn.out _ hEA (ht.ext hE.drew)).mono ?_
              rintro e w3 ⟨vv, rfl, hov, hm3, hS3⟩
              refine hN _ w3 w3 (fun h => by cases h) (Ext.refl _) ?_
              repeat (first
                | (refine pure_n rfl ?_; intro N hN; go_big_quiet_op; go_big_quiet_on)
                | (refine read_n rfl ?_; intro N hN; go_big_quiet_op; go_big_quiet_on)
                | (refine pure_g rfl rfl rfl rfl ?_; intro N hN; go_big_quiet_op; go_big_quiet_on)
                | (refine read_g rfl rfl rfl rfl ?_; intro N hN; go_big_quiet_op; go_big_quiet_on)
                | (refine skip_g rfl rfl rfl rfl ?_; simp only [Act.put, List.setIfInBounds_toArray, List.set_cons_zero, List.set_cons_succ]))
              refine plan_nil ?_
              have hT3 := hTd.set (n := 1 - pn) (by omega) hm3 hS3 (fun k hk => .inl hk)
              rw [upd_id, upd_upd] at hT3
              have hT4 := Lib.hid (show Two w3 w.heap.size fq E (upd (busyM x k) (1 - pn) (lossy (mask (x k 3)) out (busyM x k (1 - pn)) (j + 1)).1) from by rw [Htk.out]; exact hT3)
              have hS4 := Lib.hid ((hSo.out.ext (Ext.refl wr).drew).mod hm3 hnf)
              have hr4 := hm3.row (hr.drew) (hA.out (1 - pn) (by omega))
              have hE4 := hE.drew.mod hm3 hlw
              clear hT3 hTd hEA hm3 hS3 hov
              go_wp2
              exact ⟨⟨j + 1, by omega, by go_num, hT4, hS4, hr4, hE4⟩, by simp [intOf]; omega⟩
          · have hj' : j = ol := by omega
            subst hj'
            go_wp2
            exact ⟨⟨k + 1, fq, by omega, by go_num, Lib.hid (by rw [Hb.out]; exact hT.out), hr, hA, hE⟩, by simp [intOf]; omega⟩
    · have hk' : k = min n 12 := by omega
      subst hk'
      have hcond : Hid (¬ (min n 12 < n ∧ min n 12 < 12)) := Lib.hid (by omega)
      go_wp2
      all_goals first
        | (exfalso; have := hcond.out; omega)
        | (go_ret3; exact ⟨E, fq, by kernel_rfl, hE, hT.out⟩)
end Go.Proofs.YtjamakapkpkfeaaDoor
