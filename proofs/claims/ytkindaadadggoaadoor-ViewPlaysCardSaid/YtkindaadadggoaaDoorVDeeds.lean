/- Slices of deeds for views. Conditions: none. -/
import Derived.Test.YtkindaadadggoaaDoorVAll
namespace Go.Proofs.YtkindaadadggoaaDoor
open Go.RowKit

def vdcells (s : List Deed4V) : List Value := s.flatMap fun d => [iv d.1, iv d.2.1, iv d.2.2.1, iv d.2.2.2]
def VDeeds (w : World) (B : Nat) (v : Value) (s : List Deed4V) : Prop := Rd w B 4 v s.length (vdcells s)
theorem vdcells_at (s : List Deed4V) (k : Nat) (hk : k < s.length) : (vdcells s)[k * 4]? = some (iv s[k].1) ∧ (vdcells s)[k * 4 + 1]? = some (iv s[k].2.1) ∧ (vdcells s)[k * 4 + 2]? = some (iv s[k].2.2.1) ∧ (vdcells s)[k * 4 + 3]? = some (iv s[k].2.2.2) := by
  induction s generalizing k with
  | nil => simp at hk
  | cons a s ih =>
    cases k with
    | zero => simp [vdcells]
    | succ k =>
      have := ih k (by simpa using hk)
      have e : vdcells (a :: s) = [iv a.1, iv a.2.1, iv a.2.2.1, iv a.2.2.2] ++ vdcells s := rfl
      rw [e, show (k + 1) * 4 = k * 4 + 4 from by omega]
      simp only [List.getElem_cons_succ]
      refine ⟨?_, ?_, ?_, ?_⟩
      · rw [List.getElem?_append_right (by simp)]; simpa using this.1
      · rw [List.getElem?_append_right (by simp), show k * 4 + 4 + 1 - [iv a.1, iv a.2.1, iv a.2.2.1, iv a.2.2.2].length = k * 4 + 1 from by simp]; exact this.2.1
      · rw [List.getElem?_append_right (by simp), show k * 4 + 4 + 2 - [iv a.1, iv a.2.1, iv a.2.2.1, iv a.2.2.2].length = k * 4 + 2 from by simp]; exact this.2.2.1
      · rw [List.getElem?_append_right (by simp), show k * 4 + 4 + 3 - [iv a.1, iv a.2.1, iv a.2.2.1, iv a.2.2.2].length = k * 4 + 3 from by simp]; exact this.2.2.2
theorem VDeeds.at_ {w : World} {B : Nat} {v : Value} {s : List Deed4V} (h : VDeeds w B v s) {k : Nat} (hk : k < s.length) :
    ∃ b off cap, v = .slice (some ⟨b, off, none⟩) s.length cap ∧ b < B ∧ w.cell? ⟨b, off + k * 4, none⟩ = some (.int .i64 s[k].1) ∧
      w.cell? ⟨b, off + k * 4 + 1, none⟩ = some (.int .i64 s[k].2.1) ∧ w.cell? ⟨b, off + k * 4 + 2, none⟩ = some (.int .i64 s[k].2.2.1) ∧ w.cell? ⟨b, off + k * 4 + 3, none⟩ = some (.int .i64 s[k].2.2.2) := by
  obtain ⟨b, off, cap, e, h1, h2, hb, hc⟩ := Rd.shape h (by omega)
  obtain ⟨c0, c1, c2, c3⟩ := vdcells_at s k hk
  exact ⟨b, off, cap, e, hb, hc _ _ c0, by rw [Nat.add_assoc]; exact hc _ _ c1, by rw [Nat.add_assoc]; exact hc _ _ c2, by rw [Nat.add_assoc]; exact hc _ _ c3⟩
/-- rows of four ints are deeds -/
theorem vdeeds_of_recs {w : World} {B : Nat} {v : Value} {recs : List (List Int)} (hr : Rd w B 4 v recs.length (recs.flatMap fun r => r.map iv)) (hl : ∀ r ∈ recs, r.length = 4) :
    ∃ s : List Deed4V, VDeeds w B v s := by
  have h : ∃ s : List Deed4V, s.length = recs.length ∧ vdcells s = recs.flatMap fun r => r.map iv := by
    clear hr
    induction recs with
    | nil => exact ⟨[], rfl, rfl⟩
    | cons r recs ih =>
      obtain ⟨s, h1, h2⟩ := ih (fun r' h' => hl r' (List.mem_cons_of_mem _ h'))
      have h3 := hl r (List.mem_cons_self ..)
      match r, h3 with
      | [a, b, c, d], _ => exact ⟨(a, b, c, d) :: s, by simp [h1], by rw [List.flatMap_cons, ← h2]; rfl⟩
  obtain ⟨s, h1, h2⟩ := h
  refine ⟨s, ?_⟩
  unfold VDeeds
  rw [h1, h2]
  exact hr
end Go.Proofs.YtkindaadadggoaaDoor
