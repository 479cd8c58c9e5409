/- What is sealed tells the packet; changed packets that are genuine are collisions; plain laws, no program here. -/
import Derived.Test.YtjamakapkpkfeaaDoorOutP
import Derived.Test.YtjamakapkpkfeaaDoorHash
import Derived.Test.YtjamakapkpkfeaaDoorBent
namespace Go.Proofs.YtjamakapkpkfeaaDoor
open Sha

theorem u8_inj {a b : Nat} (ha : a < 256) (hb : b < 256) (h : UInt8.ofNat a = UInt8.ofNat b) : a = b := by
  have := congrArg UInt8.toNat h
  rwa [UInt8.toNat_ofNat', UInt8.toNat_ofNat', Nat.mod_eq_of_lt (show a < 2 ^ 8 from ha), Nat.mod_eq_of_lt (show b < 2 ^ 8 from hb)] at this
theorem leb_small {z : Nat} (h : z < 128) : leb z = [z] := by rw [leb_eq]; unfold ngr; rw [if_pos h]; simp [lead_zero]
theorem leb_two {z : Nat} (h : 128 ≤ z) (h2 : z < 16384) : leb z = [z % 128 + 128, z / 128] := by
  rw [leb_eq]; unfold ngr; rw [if_neg (by omega), if_pos h2]
  rw [lead_succ, lead_zero]
  simp [cont]
theorem leb_inj {z z' : Nat} {x y : List UInt8} (hz : z < 16384) (hz' : z' < 16384) (h : (leb z).map UInt8.ofNat ++ x = (leb z').map UInt8.ofNat ++ y) : z = z' ∧ x = y := by
  rcases Nat.lt_or_ge z 128 with h1 | h1 <;> rcases Nat.lt_or_ge z' 128 with h2 | h2
  · rw [leb_small h1, leb_small h2] at h
    simp only [List.map_cons, List.map_nil, List.cons_append, List.nil_append, List.cons.injEq] at h
    exact ⟨u8_inj (by omega) (by omega) h.1, h.2⟩
  · rw [leb_small h1, leb_two h2 hz'] at h
    simp only [List.map_cons, List.map_nil, List.cons_append, List.nil_append, List.cons.injEq] at h
    have := u8_inj (by omega) (by omega) h.1
    omega
  · rw [leb_two h1 hz, leb_small h2] at h
    simp only [List.map_cons, List.map_nil, List.cons_append, List.nil_append, List.cons.injEq] at h
    have := u8_inj (by omega) (by omega) h.1
    omega
  · rw [leb_two h1 hz, leb_two h2 hz'] at h
    simp only [List.map_cons, List.map_nil, List.cons_append, List.nil_append, List.cons.injEq] at h
    have e1 := u8_inj (by omega) (by omega) h.1
    have e2 := u8_inj (by omega) (by omega) h.2.1
    exact ⟨by omega, h.2.2⟩
theorem data_app (a b : ByteArray) : (a ++ b).data.toList = a.data.toList ++ b.data.toList := by
  rw [ByteArray.data_append, Array.toList_append]
theorem int_inj {a b : Nat} {x y : ByteArray} (ha : a < 8192) (hb : b < 8192) (h : int a ++ x = int b ++ y) : a = b ∧ x = y := by
  have h1 := congrArg (fun s : ByteArray => s.data.toList) h
  simp only [data_app] at h1
  have h2 : (leb (2 * a)).map UInt8.ofNat ++ x.data.toList = (leb (2 * b)).map UInt8.ofNat ++ y.data.toList := h1
  obtain ⟨e1, e2⟩ := leb_inj (by omega) (by omega) h2
  exact ⟨by omega, ByteArray.ext (Array.toList_inj.1 e2)⟩
theorem content_inj {p q : Pkt} (hp : Formed p) (hq : Formed q) (h : content p = content q) : p.ser = q.ser ∧ p.ack = q.ack ∧ p.body = q.body := by
  unfold content puts at h
  simp only [ByteArray.append_assoc] at h
  have p1 := hp.1; have p2 := hp.2.1; have p3 := hp.2.2.1
  have q1 := hq.1; have q2 := hq.2.1; have q3 := hq.2.2.1
  obtain ⟨_, h⟩ := int_inj (by decide) (by decide) h
  obtain ⟨e1, h⟩ := int_inj (by omega) (by omega) h
  obtain ⟨e2, h⟩ := int_inj (by omega) (by omega) h
  obtain ⟨_, h⟩ := int_inj (by omega) (by omega) h
  exact ⟨by omega, by omega, h⟩

/-- Two seals that are equal, of two keys of one length: the same key and what is sealed, or a collision. -/
theorem seals {k k' : ByteArray} {p q : Pkt} (hs : k.size = k'.size) (h : sealOf k p = sealOf k' q) : (k = k' ∧ content p = content q) ∨ collides (hashes k p) (hashes k' q) = true := by
  by_cases h1 : (⟨#[1]⟩ : ByteArray) ++ k ++ leaf (content p) = (⟨#[1]⟩ : ByteArray) ++ k' ++ leaf (content q)
  · have h2 := congrArg (fun s : ByteArray => s.data.toList) h1
    simp only [data_app, List.append_assoc] at h2
    have h3 := List.append_cancel_left h2
    have hl : k.data.toList.length = k'.data.toList.length := by rw [Array.length_toList, Array.length_toList]; exact hs
    obtain ⟨h4, h5⟩ := List.append_inj h3 hl
    have h5 : leaf (content p) = leaf (content q) := ByteArray.ext (Array.toList_inj.1 h5)
    by_cases h6 : (⟨#[0]⟩ : ByteArray) ++ content p = (⟨#[0]⟩ : ByteArray) ++ content q
    · have h7 := congrArg (fun s : ByteArray => s.data.toList) h6
      simp only [data_app] at h7
      exact .inl ⟨ByteArray.ext (Array.toList_inj.1 h4), ByteArray.ext (Array.toList_inj.1 (List.append_cancel_left h7))⟩
    · right
      have h8 : sha ((⟨#[0]⟩ : ByteArray) ++ content p) = sha ((⟨#[0]⟩ : ByteArray) ++ content q) := h5
      unfold collides hashes
      simp only [List.any_cons, List.any_nil, h6, h8, ne_eq, not_false_eq_true, decide_true, Bool.and_self, Bool.true_or]
  · right
    have h8 : sha ((⟨#[1]⟩ : ByteArray) ++ k ++ leaf (content p)) = sha ((⟨#[1]⟩ : ByteArray) ++ k' ++ leaf (content q)) := h
    unfold collides hashes
    simp only [List.any_cons, List.any_nil, h1, h8, ne_eq, not_false_eq_true, decide_true, Bool.and_self, Bool.true_or, Bool.or_true]
/-- A genuine packet that is not the one of the same seal: a collision. -/
theorem forged {k k' : ByteArray} {p q : Pkt} (hp : Genuine k p) (hq : Genuine k' q) (hsl : p.sl = q.sl) (hne : p ≠ q) : collides (hashes k p) (hashes k' q) = true := by
  rcases seals (hp.1.trans hq.1.symm) (hp.2.2.symm.trans (hsl.trans hq.2.2)) with ⟨h1, h2⟩ | h
  · obtain ⟨e1, e2, e3⟩ := content_inj hp.2.1 hq.2.1 h2
    exfalso; apply hne
    cases p; cases q
    simp only at e1 e2 e3 hsl
    subst e1 e2 e3 hsl; rfl
  · exact h
end Go.Proofs.YtjamakapkpkfeaaDoor
