/- A slice of structs of ints, and a slice of ints, that come in as arguments: opened to the words of this seat. Conditions: none. -/
import Derived.Test.YtpicjikjinkkpaaDoorBase
import Derived.Deep.Slices
import Derived.OpenShut
namespace Go.Proofs.YtpicjikjinkkpaaDoor
open Go.RowKit Go.ChangeShapes Go.WideShapes Go.Deep

/-- all that is asked of each index is found in one list -/
theorem list_of {α : Type} (Q : Nat → α → Prop) (n : Nat) (h : ∀ i, i < n → ∃ r, Q i r) : ∃ l : List α, l.length = n ∧ ∀ i (hi : i < l.length), Q i l[i] := by
  induction n with
  | zero => exact ⟨[], rfl, fun i hi => absurd hi (by simp)⟩
  | succ n ih =>
    obtain ⟨l, hl, hq⟩ := ih (fun i hi => h i (by omega))
    obtain ⟨r, hr⟩ := h n (by omega)
    refine ⟨l ++ [r], by simp [hl], fun i hi => ?_⟩
    rw [List.getElem_append]
    split
    · exact hq i _
    · have : i = n := by simp at hi; omega
      subst this
      simpa using hr

theorem flat_at {k : Nat} (recs : List (List Int)) (hk : ∀ r ∈ recs, r.length = k) (j : Nat) (u : Value) (h : (recs.flatMap fun r => r.map iv)[j]? = some u) :
    ∃ i c, ∃ (hi : i < recs.length) (hc : c < recs[i].length), j = i * k + c ∧ u = iv (recs[i][c]) := by
  induction recs generalizing j with
  | nil => simp at h
  | cons r recs ih =>
    have hr := hk r (List.mem_cons_self ..)
    rw [List.flatMap_cons] at h
    by_cases hj : j < k
    · rw [List.getElem?_append_left (by simpa [hr] using hj), List.getElem?_map, List.getElem?_eq_getElem (by omega)] at h
      injection h with h
      exact ⟨0, j, by simp, by simpa [hr] using hj, by omega, h.symm⟩
    · rw [List.getElem?_append_right (by simp [hr]; omega)] at h
      obtain ⟨i, c, hi, hc, e, hu⟩ := ih (fun r' h' => hk r' (List.mem_cons_of_mem _ h')) _ h
      simp only [List.length_map, hr] at e
      refine ⟨i + 1, c, by simpa using hi, by simpa using hc, by rw [Nat.add_mul, Nat.one_mul]; omega, by simpa using hu⟩

section
variable {H : Type} {enc : TypeId × Value → H} {P : Program} {w : World} {base : Nat} {spare : Nat → Bool} {held : Bool}

/-- a struct's fields are ints, each in a cell of its own -/
def IntFields (P : Program) (fs : Array Field) : Prop := ∀ (j : Nat) (f : Field), fs[j]? = some f → f.offset = j ∧ P.underlying f.type = some (.int .i64) ∧ P.cellsOf f.type = 1

theorem open_recs {t e : TypeId} {fs : Array Field} {fuel : Nat} {cs : List Value} {x : DataW H × List MemPlace} (ht : P.underlying t = some (.slice e)) (he : P.underlying e = some (.struct fs))
    (hC : P.cellsOf e = fs.size) (hf : IntFields P fs) (hpos : 0 < fs.size) (h : DataW.trod enc P w base spare held fuel t cs = some x) :
    ∃ (v : Value) (recs : List (List Int)), cs = [v] ∧ (∀ r ∈ recs, r.length = fs.size) ∧ (∀ r ∈ recs, ∀ z ∈ r, (Lit.int .i64 z).wf = true) ∧
      Rd w w.heap.size fs.size v recs.length (recs.flatMap fun r => r.map iv) := by
  rcases open_slice ht h with ⟨hcs, _⟩ | ⟨a, len, cap, m, n, D, Pl, hcs, _, hl, hm, hmm, _, hi⟩
  · exact ⟨_, [], hcs, by simp, by simp, Rd.nil _ _ _⟩
  · have hlm : len ≤ m := by rw [hmm]; split <;> omega
    obtain ⟨recs, hlen, hq⟩ := list_of (fun i (r : List Int) => r.length = fs.size ∧ (∀ z ∈ r, (Lit.int .i64 z).wf = true) ∧ ∀ j (hj : j < r.length), w.cell? (a.add (i * fs.size + j)) = some (iv r[j])) len (fun i hil => by
      obtain ⟨cs', hc, ht'⟩ := hi i (by omega)
      rw [hC] at hc
      obtain ⟨_, hcl, hat⟩ := World.cells?_some hc
      obtain ⟨xs, n', _, _, _, hxl, hg⟩ := DataW.trod_struct he ht'
      obtain ⟨r, hrl, hr⟩ := list_of (fun j (z : Int) => (Lit.int .i64 z).wf = true ∧ cs'[j]? = some (iv z)) fs.size (fun j hj => by
        have hfj : fs[j]? = some fs[j] := Array.getElem?_eq_getElem hj
        obtain ⟨ho, hu, hk⟩ := hf j _ hfj
        have h1 := hg j _ hfj
        rw [ho, hk] at h1
        have hone : (cs'.drop j).take 1 = [cs'[j]'(by omega)] := by
          rw [List.drop_eq_getElem_cons (by omega)]
          rfl
        rw [hone, List.getElem?_eq_getElem (by omega)] at h1
        obtain ⟨z, hz, _, hw⟩ := DataW.trod_int hu h1
        injection hz with hz
        exact ⟨z, hw, by rw [List.getElem?_eq_getElem (by omega), hz]⟩)
      refine ⟨r, hrl, fun z hz => ?_, fun j hj => ?_⟩
      · obtain ⟨j, hj, rfl⟩ := List.mem_iff_getElem.1 hz
        exact (hr j hj).1
      · rw [← Go.Deep.add_add, hat j (by omega)]
        exact (hr j hj).2)
    have hrl : ∀ r ∈ recs, r.length = fs.size := by
      intro r hr
      obtain ⟨i, hi', rfl⟩ := List.mem_iff_getElem.1 hr
      exact (hq i hi').1
    refine ⟨_, recs, hcs, hrl, fun r hr => ?_, ?_⟩
    · obtain ⟨i, hi', rfl⟩ := List.mem_iff_getElem.1 hr
      exact (hq i hi').2.1
    · have hflat : (recs.flatMap fun r => r.map iv).length = recs.length * fs.size := by
        clear hq hlen
        induction recs with
        | nil => simp
        | cons r recs ih =>
          rw [List.flatMap_cons, List.length_append, ih (fun r' h' => hrl r' (List.mem_cons_of_mem _ h')), List.length_map, hrl r (List.mem_cons_self ..), List.length_cons, Nat.add_mul]
          omega
      refine ⟨hflat, some a, cap, by rw [hlen], by omega, hm, fun hn => ?_⟩
      obtain ⟨b, off, spot⟩ := a
      have h0 : w.cell? ((⟨b, off, spot⟩ : Addr).add (0 * fs.size + 0)) = some _ := (hq 0 hn).2.2 0 (by rw [(hq 0 hn).1]; exact hpos)
      have hspot : spot = none := by simpa [Addr.add] using World.cell?_spot h0
      subst hspot
      refine ⟨b, off, rfl, by simpa [Addr.add] using World.block_lt_of_cell? w _ h0, fun j u hu => ?_⟩
      obtain ⟨i, c, hi', hc', rfl, rfl⟩ := flat_at recs hrl j u hu
      rw [← Go.WideShapes.add_plain]
      exact (hq i hi').2.2 c hc'
end

/-- a slice of ints, as the guide's shell hands it in -/
theorem ints_of_row {w : World} {a : Option Addr} {len cap : Nat} {z : List Int}
    (h : (a = none ∧ len = 0 ∧ cap = 0 ∧ z = []) ∨ ∃ x, a = some x ∧ len ≤ cap ∧ cap ≤ maxLen ∧ z.length = cap ∧ (∀ i, i < z.length → w.cell? (x.add i) = some (.int .i64 (z.getD i 0))) ∧ ∀ n ∈ z, (Lit.int .i64 n).wf = true) :
    Ints w w.heap.size (.slice a len cap) (z.take len) ∧ ∀ n ∈ z.take len, (Lit.int .i64 n).wf = true := by
  rcases h with ⟨rfl, rfl, rfl, rfl⟩ | ⟨x, rfl, h1, h2, h3, h4, h5⟩
  · exact ⟨Rd.nil _ _ _, by simp⟩
  · have hlen : (z.take len).length = len := by rw [List.length_take]; omega
    refine ⟨?_, fun n hn => h5 n (List.mem_of_mem_take hn)⟩
    unfold Ints
    rw [hlen]
    refine ⟨by rw [List.length_map, hlen, Nat.mul_one], some x, cap, rfl, h1, h2, fun hn => ?_⟩
    obtain ⟨b, off, rfl, hc⟩ := ints_at h4 (by omega)
    have h0 := hc 0 (by omega)
    refine ⟨b, off, rfl, World.block_lt_of_cell? w _ h0, fun j u hu => ?_⟩
    rw [List.getElem?_map, List.getElem?_take] at hu
    split at hu
    · rename_i hj
      rw [hc j (by omega)]
      rw [List.getElem?_eq_getElem (by omega)] at hu
      rw [List.getD_eq_getElem?_getD, List.getElem?_eq_getElem (by omega)]
      exact hu
    · simp at hu

end Go.Proofs.YtpicjikjinkkpaaDoor
