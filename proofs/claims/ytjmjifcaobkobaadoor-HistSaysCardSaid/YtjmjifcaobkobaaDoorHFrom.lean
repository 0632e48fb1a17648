/- The search's walk: what 'from' returns, and what it leaves. Conditions: the contract's own premises. -/
import Derived.Test.YtjmjifcaobkobaaDoorHMem
import Derived.Test.YtjmjifcaobkobaaDoorRow12
import Derived.StillTailTactics
import Derived.Deep.AppendLies
namespace Go.Proofs.YtjmjifcaobkobaaDoor
open Go.RowKit Go.Maps His

/-- a set that is dead: there is no way on from it -/
def Gd (h : List N6) (pre : List Nat) (done : Nat) (v : List Nat) : Prop := from_ h pre (h.length - Odr.cnt h.length done.testBit) done v = none
def zop (o : N6) : Z6 := (o.1, o.2.1, o.2.2.1, o.2.2.2.1, o.2.2.2.2.1, o.2.2.2.2.2)
def zops (h : List N6) : List Z6 := h.map zop
@[simp] theorem length_zops (h : List N6) : (zops h).length = h.length := by simp [zops]
/-- what stands at the search's beginning of a call -/
structure Stand (h : List N6) (pre : List Nat) (hv pv : Value) (bd : Nat) (w : World) : Prop where
  ops : Ops w bd hv (zops h)
  ahd : Ints w bd pv (zs pre)
  len : pre.length = h.length
  fit : ∀ i, pre.getD i 0 < 4096
/-- what a call of 'from' leaves -/
def STo (w : World) (h : List N6) (pre : List Nat) (hv pv : Value) (bd B : Nat) (ov : Value) (I : Nat → Option Nat) (l : List Nat) (m : Nat) (w' : World) : Prop :=
  ∃ ov' I' n', SrchAt w' bd B n' (Gd h pre) hv pv ov' I' l ∧ n' ≤ m ∧ Only (F bd B ov I) w w' ∧ ∀ k, F bd B ov' I' k → F bd B ov I k ∨ w.heap.size ≤ k
def FromOk (h : List N6) (pre : List Nat) (hv pv : Value) (bd B d : Nat) : Prop :=
  ∀ (l : List Nat) (done v0 v1 v2 n : Nat) (ov : Value) (I : Nat → Option Nat) (w : World), l.length + d = h.length → done < 2 ^ h.length → Odr.cnt h.length done.testBit = l.length →
    v0 ≤ 1000000 → v1 ≤ 1000000 → v2 ≤ 1000000 → n + 11 ^ (d + 1) ≤ 2 ^ 50 → SrchAt w bd B n (Gd h pre) hv pv ov I l → Stand h pre hv pv bd w →
    Calls Tryd.prog 23 #[.pointer (some ⟨B, 0, none⟩), nv done, .agg #[nv v0, nv v1, nv v2]] w fun e w' =>
      e = .returned (.bool (from_ h pre d done [v0, v1, v2]).isSome) ∧ STo w h pre hv pv bd B ov I (l ++ (from_ h pre d done [v0, v1, v2]).getD []) (n + 11 ^ (d + 1)) w'

section
variable {w : World} {h h' : List N6} {pre : List Nat} {hv pv ov : Value} {bd B n m : Nat} {I : Nat → Option Nat} {l : List Nat}
theorem STo.same (hs : SrchAt w bd B n (Gd h pre) hv pv ov I l) (hm : n ≤ m) (o : Obj) (k : Nat) : STo w h pre hv pv bd B ov I l m ((w.alloc o).drewN k) :=
  ⟨ov, I, n, (hs.alloc o).drewN k, hm, ((Only.refl _ _).alloc o).drewN k, fun _ hk => .inl hk⟩
theorem STo.drewN {w' : World} (h : STo w h' pre hv pv bd B ov I l m w') (k : Nat) : STo w h' pre hv pv bd B ov I l m (w'.drewN k) := by
  obtain ⟨ov', I', n', h1, h2, h3, h4⟩ := h
  exact ⟨ov', I', n', h1.drewN k, h2, h3.drewN k, h4⟩
theorem STo.drew {w' : World} (h : STo w h' pre hv pv bd B ov I l m w') : STo w h' pre hv pv bd B ov I l m w'.drew := by
  obtain ⟨ov', I', n', h1, h2, h3, h4⟩ := h
  exact ⟨ov', I', n', h1.drewN 1, h2, h3.drew, h4⟩
end

theorem hlen10 {h : List N6} (hh : Hok h) : h.length ≤ 10 := hh.len

set_option maxHeartbeats 1000000 in
theorem from_full (h : List N6) (hh : Hok h) (pre : List Nat) (hv pv : Value) (bd B : Nat) : FromOk h pre hv pv bd B 0 := by
  intro l done v0 v1 v2 n ov I w hl hd hc h0 h1 h2 hn hs hst
  have hlen : l.length = h.length := by omega
  have HS := Lib.hid hs
  have HL := Lib.hid hh.len
  have a0 := (hs.alloc (.cells #[nv v0, nv v1, nv v2] 59)).c0
  have a3 := (hs.alloc (.cells #[nv v0, nv v1, nv v2] 59)).c3
  obtain ⟨A, cap, rfl⟩ := Rd.val hst.ops
  obtain ⟨A', cap', rfl⟩ := Rd.val hs.out.ints
  rw [length_zops] at *
  rw [length_zs, hlen] at *
  clear hs hst hc hh
  go_enter Tryd.func23, Tryd.ntmps23
  go_wp2_with fail
  go_quiet (fail)
  go_wp2_with fail
  go_ret
  exact ⟨rfl, by simpa [from_] using STo.same HS.out (by omega) _ _⟩

theorem Gd_of {h : List N6} {pre : List Nat} {done d : Nat} {v l : List Nat} (hl : l.length + d = h.length) (hc : Odr.cnt h.length done.testBit = l.length) : Gd h pre done v ↔ from_ h pre d done v = none := by
  unfold Gd
  rw [hc, show h.length - l.length = d by omega]

set_option maxHeartbeats 1000000 in
theorem from_dead (h : List N6) (hh : Hok h) (pre : List Nat) (hv pv : Value) (bd B d : Nat) (l : List Nat) (done v0 v1 v2 n : Nat) (ov : Value) (I : Nat → Option Nat) (w : World) (hl : l.length + (d + 1) = h.length) (hd : done < 4096)
    (hs : SrchAt w bd B n (Gd h pre) hv pv ov I l) (hst : Stand h pre hv pv bd w) {b : Nat} (hI : I done = some b) (hlook : ∀ w' : World, w'.heap[b]? = w.heap[b]? → (Instr.lookup 75 (.map (some b)) (.agg #[nv v0, nv v1, nv v2]) false).run Tryd.prog w' = .ok (.bool true) w') :
    Calls Tryd.prog 23 #[.pointer (some ⟨B, 0, none⟩), nv done, .agg #[nv v0, nv v1, nv v2]] w fun e w' =>
      e = .returned (.bool false) ∧ STo w h pre hv pv bd B ov I l n w' := by
  have hne : ((l.length : Int) == (h.length : Int)) = false := by simp; omega
  have HS := Lib.hid hs
  have HL := Lib.hid hh.len
  have hs1 := hs.alloc (.cells #[nv v0, nv v1, nv v2] 59)
  have a0 := hs1.c0
  have a2 := hs1.c2
  have a3 := hs1.c3
  have k1 : ∀ q, (Instr.lookup 55 (.map (some bd)) (nv done) false).run Tryd.prog ((w.alloc (.cells #[nv v0, nv v1, nv v2] 59)).drewN q) = .ok (.map (some b)) ((w.alloc (.cells #[nv v0, nv v1, nv v2] 59)).drewN q) := fun q => by
    rw [(hs1.drewN q).map.look hd, hI]
  have hbl := (hs.inn done b hI).2.1.lt
  have k2 : ∀ q, (Instr.lookup 75 (.map (some b)) (.agg #[nv v0, nv v1, nv v2]) false).run Tryd.prog ((w.alloc (.cells #[nv v0, nv v1, nv v2] 59)).drewN q) = .ok (.bool true) ((w.alloc (.cells #[nv v0, nv v1, nv v2] 59)).drewN q) := fun q =>
    hlook _ (Below.heap_alloc w _ b hbl)
  obtain ⟨A, cap, rfl⟩ := Rd.val hst.ops
  obtain ⟨A', cap', rfl⟩ := Rd.val hs.out.ints
  rw [length_zops] at *
  rw [length_zs] at *
  clear hs hs1 hst hh hlook hI
  go_enter Tryd.func23, Tryd.ntmps23
  go_wp2_with fail
  go_quiet (fail)
  go_wp2_with fail
  go_quiet (fail)
  go_wp2_with fail
  go_ret
  exact ⟨rfl, (STo.same HS.out (Nat.le_refl _) _ _).drewN _⟩
end Go.Proofs.YtjmjifcaobkobaaDoor
