/- Plain words on the table of who is near to whom, as chain.Rows builds it. No program is in sight. Conditions: none. -/
import Derived.Test.YtpicjikjinkkpaaDoorRowsM
namespace Go.Proofs.YtpicjikjinkkpaaDoor
open Go.RowKit
namespace Odr

/-- of thing j: the row of j itself (for j below a), those ahead of it (below k), and k where j is one of js -/
def nb (c : List Nat) (a k : Nat) (js : List Nat) (j i : Nat) : Bool := (decide (j < a) && rel c j i) || (decide (i < k) && rel c i j) || (decide (j ∈ js) && decide (i = k))
def nl (c : List Nat) (a k : Nat) (js : List Nat) : List Nat := (List.range c.length).map fun j => mk c.length (nb c a k js j)
@[simp] theorem length_nl (c : List Nat) (a k : Nat) (js : List Nat) : (nl c a k js).length = c.length := by simp [nl]
theorem getD_nl {c : List Nat} {a k j : Nat} {js : List Nat} (hj : j < c.length) : (nl c a k js).getD j 0 = mk c.length (nb c a k js j) := by
  unfold nl
  rw [List.getD_eq_getElem?_getD, List.getElem?_map, List.getElem?_range hj]; rfl
theorem bit_nl {c : List Nat} {a k j : Nat} {js : List Nat} (hj : j < c.length) (i : Nat) : ((nl c a k js).getD j 0).testBit i = (decide (i < c.length) && nb c a k js j i) := by
  rw [getD_nl hj, testBit_mk]
theorem nl_lt (c : List Nat) (a k j : Nat) (js : List Nat) : (nl c a k js).getD j 0 < 2 ^ c.length := by
  by_cases hj : j < c.length
  · rw [getD_nl hj]; exact mk_lt _ _
  · rw [List.getD_eq_getElem?_getD, List.getElem?_eq_none (by simp; omega)]
    exact Nat.two_pow_pos _
theorem nl_ext {c l : List Nat} {a k : Nat} {js : List Nat} (hl : l.length = c.length) (h : ∀ j, j < c.length → ∀ i, (l.getD j 0).testBit i = (decide (i < c.length) && nb c a k js j i)) : l = nl c a k js := by
  apply List.ext_getElem (by rw [hl, length_nl])
  intro j h1 h2
  have hj : j < c.length := by omega
  have e1 : l[j] = l.getD j 0 := by rw [List.getD_eq_getElem?_getD, List.getElem?_eq_getElem h1]; rfl
  have e2 : (nl c a k js)[j] = (nl c a k js).getD j 0 := by rw [List.getD_eq_getElem?_getD, List.getElem?_eq_getElem h2]; rfl
  rw [e1, e2]
  apply Nat.eq_of_testBit_eq
  intro i
  rw [h j hj i, bit_nl hj]
theorem nl_zero (c : List Nat) : nl c 0 0 [] = List.replicate c.length 0 := by
  refine (nl_ext (by simp) fun j hj i => ?_).symm
  rw [List.getD_eq_getElem?_getD, List.getElem?_replicate]
  simp [nb, hj]
theorem nl_row {c : List Nat} (hf : Fits c) {k : Nat} (hk : k < c.length) : nl c (k + 1) k [] = (nl c k k []).set k ((nl c k k []).getD k 0 ||| c.getD k 0) := by
  refine (nl_ext (by simp) fun j hj i => ?_).symm
  rw [Dil.getD_set]
  by_cases e : k = j
  · subst e
    rw [if_pos ⟨rfl, by simpa using hk⟩, Nat.testBit_or, bit_nl hk]
    have h1 : (c.getD k 0).testBit i = rel c k i := rfl
    rw [h1]
    unfold nb
    cases hr : rel c k i
    · simp
    · have := rel_lt_right hf hr
      simp [this]
  · rw [if_neg (fun q => e q.1), bit_nl hj]
    unfold nb
    have h1 : decide (j < k + 1) = decide (j < k) := by rw [decide_eq_decide]; omega
    rw [h1]
theorem nl_snoc {c : List Nat} {a k x : Nat} {js : List Nat} (hx : x < c.length) (hk : k < c.length) : nl c a k (js ++ [x]) = (nl c a k js).set x ((nl c a k js).getD x 0 ||| 2 ^ k) := by
  refine (nl_ext (by simp) fun j hj i => ?_).symm
  rw [Dil.getD_set]
  by_cases e : x = j
  · subst e
    rw [if_pos ⟨rfl, by simpa using hx⟩, Nat.testBit_or, bit_nl hx, Nat.testBit_two_pow]
    unfold nb
    by_cases h : k = i
    · subst h; simp [hk]
    · have h' : ¬ i = k := fun q => h q.symm
      simp [h, h']
  · rw [if_neg (fun q => e q.1), bit_nl hj]
    unfold nb
    have h1 : decide (j ∈ js ++ [x]) = decide (j ∈ js) := by
      rw [decide_eq_decide, List.mem_append, List.mem_singleton]
      exact ⟨fun q => q.elim id (fun q => absurd q.symm e), .inl⟩
    rw [h1]
theorem nl_next {c : List Nat} {a k : Nat} (hc : c.getD k 0 < 4096) : nl c a k (bitsOf (c.getD k 0)) = nl c a (k + 1) [] := by
  refine nl_ext (by simp) fun j hj i => ?_
  rw [bit_nl hj]
  congr 1
  unfold nb
  have h1 : decide (j ∈ bitsOf (c.getD k 0)) = rel c k j := by
    rw [Bool.eq_iff_iff, decide_eq_true_eq]; exact mem_bitsOf hc
  rw [h1]
  by_cases e : i = k
  · subst e; simp
  · have h2 : decide (i < k + 1) = decide (i < k) := by rw [decide_eq_decide]; omega
    simp [e, h2]
theorem nl_all (c : List Nat) : nl c c.length c.length [] = nearOf c := by
  refine (nl_ext (by simp) fun j hj i => ?_).symm
  by_cases hi : i < c.length
  · rw [bit_nearOf hi hj]
    unfold nb
    simp [hi, hj, Bool.or_comm]
  · rw [testBit_lt (nearOf_lt c j) (Nat.le_of_not_lt hi)]
    simp [hi]
end Odr
end Go.Proofs.YtpicjikjinkkpaaDoor
