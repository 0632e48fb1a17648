/- The contract of package sched's Edges: of each transaction which others must come behind it. Conditions: the contract's own premises. -/
import Derived.Test.YtjmjifcaobkobaaActs
import Derived.Test.YtjmjifcaobkobaaSchedM
import Derived.Test.YtjmjifcaobkobaaRow12
import Derived.Deep.QuietTactic
namespace Go.Proofs.Ytjmjifcaobkobaa
open Go.RowKit

theorem Acts.atN {w : World} {B : Nat} {v : Value} {t : List Sch.N3} (h : Acts w B v (Sch.zacts t)) {k : Nat} (hk : k < t.length) :
    ∃ b off cap, v = .slice (some ⟨b, off, none⟩) t.length cap ∧ t.length ≤ cap ∧ cap ≤ maxLen ∧ b < B ∧ w.cell? ⟨b, off + k * 3, none⟩ = some (nv (t.getD k Sch.d3).1) ∧
      w.cell? ⟨b, off + k * 3 + 1, none⟩ = some (nv (t.getD k Sch.d3).2.1) ∧ w.cell? ⟨b, off + k * 3 + 2, none⟩ = some (nv (t.getD k Sch.d3).2.2) := by
  obtain ⟨b, off, cap, e, h1, h2, hb, hc⟩ := Acts.at_ h (k := k) (by simpa using hk)
  have e' : (Sch.zacts t)[k]'(by simpa using hk) = Sch.z3 (t.getD k Sch.d3) := by
    simp [Sch.zacts, List.getD_eq_getElem?_getD, List.getElem?_eq_getElem hk]
  rw [e'] at hc
  rw [Sch.length_zacts] at e h1
  exact ⟨b, off, cap, e, h1, h2, hb, hc⟩

theorem actsOk {t : List Sch.N3} (h : ∀ a ∈ t, Sch.Ok3 a) : ∀ a ∈ Sch.zacts t, actOk a := by
  intro a ha
  obtain ⟨b, hb, rfl⟩ := List.mem_map.1 ha
  obtain ⟨h1, h2, h3⟩ := h b hb
  refine ⟨⟨?_, ?_⟩, ⟨?_, ?_⟩, ?_, ?_⟩ <;> (simp only [Sch.z3]; omega)

end Go.Proofs.Ytjmjifcaobkobaa
