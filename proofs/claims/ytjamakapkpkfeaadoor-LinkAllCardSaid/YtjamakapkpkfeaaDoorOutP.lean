/- What goes out, packet by packet; plain laws, no program here. -/
import Derived.Test.YtjamakapkpkfeaaDoorNet2
namespace Go.Proofs.YtjamakapkpkfeaaDoor
open Sha

theorem Sound.genuine {S : Lk} {p : Pkt} (h : Sound S p) (hS : S.Ok) : Genuine S.key p := by
  have h1 := h.ack; have h2 := h.ack0; have h3 := hS.got; have h4 := h.ser0
  refine ⟨hS.key, ?_, h.sl⟩
  rcases h.body with ⟨h5, h6⟩ | ⟨h5, h6⟩
  · refine ⟨⟨h4, by omega⟩, ⟨h2, by omega⟩, by rw [h6]; decide, .inr (by rw [h6, Lib.toList_data]), by rw [h.sl]; exact sha_size _⟩
  · have h7 : p.ser.toNat - 1 < S.sent.length := by
      rcases Nat.lt_or_ge (p.ser.toNat - 1) S.sent.length with h | h
      · exact h
      · rw [List.getElem?_eq_none h] at h6; cases h6
    have h8 := hS.sent
    have h9 : p.body ∈ S.sent := List.mem_of_getElem? h6
    exact ⟨⟨h4, by omega⟩, ⟨h2, by omega⟩, hS.body _ h9, .inl (by omega), by rw [h.sl]; exact sha_size _⟩
theorem out_size (L : Lk) : L.out.length = if L.acked = L.sent.length then 1 else min 4 (L.sent.length - L.acked) := by
  rw [out_len]
  unfold Lk.bare
  split
  · rfl
  · rw [List.length_map, List.length_range]
theorem out_ser {L : Lk} {k : Nat} {pk : Pkt} (h : L.out[k]? = some pk) : pk.ser = if L.acked = L.sent.length then 0 else (L.acked : Int) + k + 1 := by
  unfold Lk.out at h
  rw [List.getElem?_map] at h
  unfold Lk.bare at h
  split at h
  · rename_i he
    rw [if_pos he]
    cases k with
    | zero => cases h; rfl
    | succ k => simp at h
  · rename_i he
    rw [if_neg he]
    rw [List.getElem?_map] at h
    rcases Nat.lt_or_ge k (min 4 (L.sent.length - L.acked)) with hk | hk
    · rw [List.getElem?_range hk] at h
      cases h; rfl
    · rw [List.getElem?_eq_none (by rw [List.length_range]; exact hk)] at h; cases h
theorem busy_key (ops : Nat → Nat → Int) : ∀ (i : Nat), i ≤ 100 → ∀ n, n < 2 → (busyM ops i n).key = keyAt n
  | 0, _, _, _ => rfl
  | i + 1, h, n, hn => by
    have ih := busy_key ops i (by omega)
    obtain ⟨h1, h2⟩ := busy_net ops i (by omega)
    show (busyStep (busyM ops i) (ops i) n).key = _
    have hp := pickN_lt (ops i 0) (n := 2) (by decide)
    unfold busyStep
    generalize pickN (ops i 0) 2 = m at *
    split
    · by_cases hm : n = m
      · subst hm; rw [upd_same]; exact ih n hn
      · rw [upd_ne _ _ hm]; exact ih n hn
    · by_cases hm : n = 1 - m
      · rw [hm, upd_same]
        have hl := out_le (busyM ops i m)
        have := lossy_spec (c := mask (ops i 3)) (h1.at hp) (fun p hp' => sound_out (h1.at hp).okA hp') (busyM ops i m).out.length (by have := h2.ins (1 - m) (by omega); omega)
        rw [this.1.far.key]
        exact ih (1 - m) (by omega)
      · rw [upd_ne _ _ hm]; exact ih n hn
end Go.Proofs.YtjamakapkpkfeaaDoor
