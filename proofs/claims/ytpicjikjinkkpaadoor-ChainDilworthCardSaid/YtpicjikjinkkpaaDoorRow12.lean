/- Small words on sets of at most twelve things, and on lists of natural numbers in memory. Conditions: each one's own premises. -/
import Derived.Test.YtpicjikjinkkpaaDoorCore
namespace Go.Proofs.YtpicjikjinkkpaaDoor
open Go.RowKit

theorem has12 (s i : Nat) (w : World) (hs : s < 4096) (hi : i < 64) : Calls Tryd.prog 63 #[nv s, nv i] w fun e w' => e = .returned (.bool (s.testBit i)) ∧ w = w' :=
  has_calls s i w (by omega) hi

theorem Ints.atN {w : World} {B : Nat} {v : Value} {l : List Nat} (h : Ints w B v (zs l)) {k : Nat} (hk : k < l.length) :
    ∃ b off cap, v = .slice (some ⟨b, off, none⟩) l.length cap ∧ b < B ∧ w.cell? ⟨b, off + k, none⟩ = some (nv (l.getD k 0)) := by
  obtain ⟨b, off, cap, e, hb, hc⟩ := Ints.at_ h (k := k) (by simpa using hk)
  rw [length_zs] at e
  refine ⟨b, off, cap, e, hb, ?_⟩
  rw [hc]
  simp [zs, List.getD_eq_getElem?_getD, List.getElem?_eq_getElem hk]

theorem fits12 {l : List Nat} (hlen : l.length ≤ 12) {x : Nat} (h : x < 2 ^ l.length) : x < 4096 := by
  have : 2 ^ l.length ≤ 2 ^ 12 := Nat.pow_le_pow_right (by omega) hlen
  omega

theorem zs_getElem (l : List Nat) (i : Nat) (h : i < (zs l).length) : (zs l)[i] = ((l.getD i 0 : Nat) : Int) := by
  have h' : i < l.length := by simpa using h
  simp [zs, List.getD_eq_getElem?_getD, List.getElem?_eq_getElem h']
theorem zs_set (l : List Nat) (i x : Nat) : (zs l).set i (x : Int) = zs (l.set i x) := by
  simp [zs, List.map_set]

end Go.Proofs.YtpicjikjinkkpaaDoor
