/- Contracts of short and of the law LinkNil. -/
import Derived.Test.YtjamakapkpkfeaaDoorSane
namespace Go.Proofs.YtjamakapkpkfeaaDoor
open Go.RowKit Go.Shelf Sha

def shortP (p : Pkt) : Pkt := { p with body := p.body.extract 0 (min (p.body.size : Int) 201).toNat, sl := p.sl.extract 0 (min (p.sl.size : Int) 33).toNat }

set_option maxRecDepth 100000 in
set_option maxHeartbeats 2000000 in
theorem short_any (p : Pkt) (hb : p.body.size ≤ maxLen) (hs : p.sl.size ≤ maxLen) (w : World) : Calls Tryd.prog 15 #[p.val] w fun e w' => e = .returned (shortP p).val ∧ Ext w w' := by
  obtain ⟨ser, ack, body, sl⟩ := p
  dsimp only at hb hs
  simp only [maxLen] at hb hs
  go_enter Tryd.func15, Tryd.ntmps15
  unfold Pkt.val Pkt.cells
  go_wp2
  refine bodyPost_ret (results_cell_row rfl _ _ (w.heap.size + 1) _ _ _ _ rfl (heap_alloc2_new w _ _) Tryd.underlying24 rfl (by kernel_rfl)) rfl ⟨rfl, ((Ext.refl w).alloc _).alloc _⟩

set_option maxRecDepth 100000 in
set_option maxHeartbeats 2000000 in
theorem linkNil_any (body : ByteArray) (hb : body.size ≤ maxLen) (p : Pkt) (hpb : p.body.size ≤ maxLen) (hps : p.sl.size ≤ maxLen) (w : World) (ht : Tab w) : Calls Tryd.prog 12 #[.string body, p.val] w fun e w' => e = .returned (.bool true) ∧ Ext w w' := by
  have HS := Lib.hid (short_any p hpb hps)
  have HI := Lib.hid (nil_in (shortP p))
  generalize shortP p = q at *
  obtain ⟨ser, ack, bd, sl⟩ := p
  obtain ⟨qser, qack, qbd, qsl⟩ := q
  clear hpb hps
  simp only [maxLen] at hb
  go_enter Tryd.func12, Tryd.ntmps12
  unfold Pkt.val Pkt.cells at *
  have hE0 := (Ext.refl w).alloc (.cells #[.int .i64 ser, .int .i64 ack, .string bd, .string sl] 24)
  have hr0 := Row.new w 24 [.int .i64 ser, .int .i64 ack, .string bd, .string sl]
  go_wp2_with (go_at_call 14; go_loud (refine (sane_any _ (ht.ext hE0)).mono ?_; rintro e w1 ⟨rfl, hE1⟩; have hr1 := hr0.ext hE1; have c0 := hr1.cell 0 (by show 0 < 4; decide); have c1 := hr1.cell 1 (by show 1 < 4; decide); have c2 := hr1.cell 2 (by show 2 < 4; decide); have c3 := hr1.cell 3 (by show 3 < 4; decide)))
  go_wp2_with (go_at_call 15; go_loud (refine (HS.out _).mono ?_; rintro e w2 ⟨rfl, hE2⟩))
  go_wp2_with (go_at_call 26; go_loud (refine (HI.out _).mono ?_; rintro e w3 ⟨rfl, hE3⟩))
  go_wp2_with (first
    | (go_at_call 20; go_loud (refine (nil_send _ _).mono ?_; rintro e w4 ⟨rfl, hk⟩; subst w4))
    | (go_at_call 22; go_loud (refine (nil_out _).mono ?_; rintro e w4 ⟨rfl, hk⟩; subst w4))
    | (go_at_call 31; go_loud (refine (nil_sent _).mono ?_; rintro e w4 ⟨rfl, hk⟩; subst w4))
    | (go_at_call 33; go_loud (refine (nil_waiting _).mono ?_; rintro e w4 ⟨rfl, hk⟩; subst w4))
    | (go_at_call 35; go_loud (refine (nil_received _).mono ?_; rintro e w4 ⟨rfl, hk⟩; subst w4)))
  go_ret
  exact ⟨by kernel_rfl, ((hE0.trans hE1).trans hE2).trans hE3⟩
end Go.Proofs.YtjamakapkpkfeaaDoor
