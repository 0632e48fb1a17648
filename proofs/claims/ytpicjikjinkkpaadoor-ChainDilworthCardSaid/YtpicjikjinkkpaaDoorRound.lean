/- A region that draws its order inside the body of a loop over an iterator: where all operations but one store at its end only read, one walk in the order of the text serves. Conditions: the law's own premises. -/
import Derived.Test.YtpicjikjinkkpaaDoorMarks
import Derived.StillTailTactics
import Derived.OrdersIn
import Derived.RangeFuncCalls
namespace Go.Proofs.YtpicjikjinkkpaaDoor
open Go

section
variable {P : Program} {Q : Exit → Act → World → Prop} {l n : Nat}

theorem opIn_round {o : Oper} {a : Act} {w : World} {K : Act → World → Prop} (hd : ∀ c, o.op ≠ .defer c) (h : o.wp P a w K Q) : o.wpIn (Fence.wide.inRound l) n P a w K Q := by
  refine ⟨fun _ _ => trivial, ?_⟩
  rw [Oper.semAt_eq _ _ _ hd]
  unfold Oper.wp at h
  generalize (execOp a.eval o).run P w = r at h ⊢
  cases r with
  | ok x w' =>
    cases x with
    | value v => exact h
    | skip => exact h
    | defer d => exact h
    | enter f args => exact ⟨fun hs => (by cases hs), CallsIn.inRound l (callsIn_wide.2 h)⟩
    | row row args => exact ⟨fun hs => (by cases hs), fun c cs _ => by obtain ⟨v, w'', r, s⟩ := h c cs; exact ⟨v, w'', r, stepsIn_wide.2 s⟩⟩
    | _ => exact (h : False).elim
  | halt x w' =>
    cases x with
    | panic v => exact h
    | _ => exact (h : False).elim

theorem wpAnyIn_round {md : Region.Mode} {ops : Array Oper} (hd : ∀ (i : Nat) (o : Oper) c, ops[i]? = some o → o.op ≠ .defer c) (hQ : ¬ LetsOut Q) :
    ∀ (fuel : Nat) (listed : Array Bool) (a : Act) (w : World), wpAny P md ops Q fuel listed a w → wpAnyIn (Fence.wide.inRound l) n P md ops Q fuel listed a w := by
  intro fuel
  induction fuel with
  | zero => intro listed a w h; exact h
  | succ fuel ih =>
    intro listed a w h
    refine ⟨h.1, fun i hi => ?_⟩
    have hw := h.2 i hi
    unfold wpOp at hw
    unfold wpOpIn
    cases ho : ops[i]? with
    | none => rw [ho] at hw; exact ih _ _ _ hw
    | some o =>
      rw [ho] at hw
      simp only at hw ⊢
      by_cases hwt : Region.wanted o (yielded ops a.tmps) = true
      · rw [if_pos hwt] at hw ⊢
        rcases hw with hw | ⟨_, hw⟩
        · exact Oper.wpIn_mono (fun a w h => ih _ a w h) (opIn_round (fun c => hd i o c ho) hw)
        · exact absurd hw hQ
      · rw [if_neg hwt] at hw ⊢
        exact ⟨fun _ _ => trivial, ih _ _ _ hw⟩

/-- Q at a normal end, and no other -/
def NormalOnly (Q : Exit → Act → World → Prop) : Exit → Act → World → Prop
  | .normal, a, w => Q .normal a w
  | _, _, _ => False

def noDefer (ops : List Oper) : Bool := ops.all fun o => match o.op with | .defer _ => false | _ => true

theorem region_tail_round {id k : Nat} {a : Act} {w : World} {ops : List Oper} (hm : P.follows .mixedOrders = true) (hB : Region.lexTailB .any ops.toArray k = true) (hnd : noDefer ops = true)
    (h : wpStill P ops.toArray w.drew (fun a' => wpList P ops.toArray (NormalOnly Q) (ops.drop k) a' w.drew) (ops.take k) a) :
    (Code.region id ops.toArray true).wpIn (Fence.wide.inRound l) n P Q a w := by
  refine Code.wpIn_mono (Q := NormalOnly Q) (fun e a w h => by cases e <;> first | exact h | exact (h : False).elim) ?_
  refine wpIn_region_any hm ?_
  refine wpAnyIn_round (fun i o c ho hc => ?_) (fun ⟨a, w, h⟩ => h) _ _ _ _ ?_
  · have hmem : o ∈ ops := by
      have := Array.mem_of_getElem? ho
      simpa using this
    have := List.all_eq_true.1 hnd o hmem
    rw [hc] at this
    cases this
  · simp only [Region.lexTailB, Bool.and_eq_true, decide_eq_true_eq] at hB
    obtain ⟨⟨⟨⟨b1, b2⟩, b3⟩, b4⟩, b5⟩ := hB
    have hk : k < ops.length := by simpa using b2
    have ht : (ops.take k).length = k := by simp; omega
    have hr : (ops.drop k).length = ops.toArray.size - k := by simp
    have start : HeadInv .any ops.toArray k (Array.replicate ops.toArray.size false) :=
      ⟨by simp, fun j oj _ hl => absurd hl (by rw [getD_replicate_false]; simp), fun t _ hlt => getD_in (by simpa using hlt) (getD_replicate_false _ _)⟩
    have head := wpAnyL_lex (md := .any) (g := ops.toArray.size - k) b1 b3 b4 b2 (ops.take k) 0 _ a (fun j hj => by
      rw [ht] at hj
      simp [hj]) (by omega) start (by rw [ht]; exact b5) h
    have tail := fun listed a' (hL : Region.seqB .any ops.toArray (ops.toArray.size - k) k listed = true ∧ wpList P ops.toArray (NormalOnly Q) (ops.drop k) a' w.drew) =>
      wpAny_of_seq (md := .any) (ops.drop k) k listed a' w.drew (fun j => by simp [List.getElem?_drop]) (by rw [hr]; exact hL.1) hL.2
    rw [hr] at tail
    have all := wpAny_of_head tail _ _ _ head
    rw [ht, show k + (ops.toArray.size - k) = ops.toArray.size by omega] at all
    exact all
end
end Go.Proofs.YtpicjikjinkkpaaDoor
