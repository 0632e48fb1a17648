/- Plain mathematics of turning an order round, row by row, thing by thing. No program is in sight. Conditions: none. -/
import Derived.Test.YtpicjikjinkkpaaDoorTz
namespace Go.Proofs.YtpicjikjinkkpaaDoor
namespace Odr

/-- what stands in row j when rows below k are done and of row k the things js -/
def tcell (c : List Nat) (k : Nat) (js : List Nat) (j : Nat) : Nat := if j ∈ js then 2 ^ k + mk k (fun i => rel c i j) else mk k (fun i => rel c i j)
def tpart (c : List Nat) (k : Nat) (js : List Nat) : List Nat := (List.range c.length).map (tcell c k js)
theorem length_tpart (c : List Nat) (k : Nat) (js : List Nat) : (tpart c k js).length = c.length := by simp [tpart]
theorem getD_tpart (c : List Nat) (k : Nat) (js : List Nat) {j : Nat} (hj : j < c.length) : (tpart c k js).getD j 0 = tcell c k js j := by
  rw [List.getD_eq_getElem?_getD]; simp [tpart, hj]
theorem tcell_lt (c : List Nat) (k : Nat) (js : List Nat) (j : Nat) : tcell c k js j < 2 ^ (k + 1) := by
  have := mk_lt k (fun i => rel c i j)
  have h2 : 2 ^ (k + 1) = 2 ^ k + 2 ^ k := by rw [Nat.pow_succ]; omega
  unfold tcell
  split <;> omega
theorem tcell_or (c : List Nat) (k : Nat) (js : List Nat) (j : Nat) : tcell c k js j ||| 2 ^ k = 2 ^ k + mk k (fun i => rel c i j) := by
  have h := mk_lt k (fun i => rel c i j)
  generalize hx : mk k (fun i => rel c i j) = x at *
  apply Nat.eq_of_testBit_eq
  intro i
  have e : 2 ^ k + x = 2 ^ k ||| x := Nat.two_pow_add_eq_or_of_lt h 1 |> fun e => by simpa using e
  unfold tcell
  rw [hx, e]
  split <;> simp only [Nat.testBit_or]
  · cases Nat.testBit (2 ^ k) i <;> simp
  · cases Nat.testBit (2 ^ k) i <;> simp
theorem tpart_zero (c : List Nat) : tpart c 0 [] = List.replicate c.length 0 := by
  apply List.ext_getElem (by simp [tpart])
  intro i h1 h2
  simp [tpart, tcell, mk]
theorem tpart_snoc (c : List Nat) (k : Nat) (js : List Nat) (j : Nat) (hj : j < c.length) : tpart c k (js ++ [j]) = (tpart c k js).set j ((tpart c k js).getD j 0 ||| 2 ^ k) := by
  rw [getD_tpart c k js hj, tcell_or]
  apply List.ext_getElem (by simp [tpart])
  intro i h1 h2
  rw [List.getElem_set]
  simp only [tpart, List.getElem_map, List.getElem_range]
  by_cases hij : j = i
  · subst hij
    simp [tcell]
  · rw [if_neg hij]
    unfold tcell
    have : (i ∈ js ++ [j]) ↔ i ∈ js := by simp; omega
    by_cases hi : i ∈ js
    · rw [if_pos hi, if_pos (this.2 hi)]
    · rw [if_neg hi, if_neg (fun h => hi (this.1 h))]
theorem tpart_row (c : List Nat) (k : Nat) (hc : c.getD k 0 < 4096) : tpart c k (bitsOf (c.getD k 0)) = tpart c (k + 1) [] := by
  unfold tpart
  apply List.map_congr_left
  intro j _
  unfold tcell
  rw [if_neg (by simp : ¬ j ∈ []), mk]
  have : j ∈ bitsOf (c.getD k 0) ↔ rel c k j = true := mem_bitsOf hc
  by_cases hj : rel c k j = true
  · rw [if_pos (this.2 hj), if_pos hj]
  · rw [if_neg (fun h => hj (this.1 h)), if_neg hj]
theorem tpart_all (m : List Nat) : tpart (closed m) m.length [] = turned m := by
  unfold tpart turned
  rw [length_closed]
  apply List.map_congr_left
  intro j _
  simp [tcell]

end Odr
end Go.Proofs.YtpicjikjinkkpaaDoor
