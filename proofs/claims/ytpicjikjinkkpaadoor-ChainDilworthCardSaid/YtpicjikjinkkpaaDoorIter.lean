/- The iterator core.Bits: it hands over the things of a small set, rising, to whatever round keeps what lay below a block. Conditions: the contract's own premises. -/
import Derived.Test.YtpicjikjinkkpaaDoorTz
import Derived.RangeFuncNested
import Derived.RangeFuncBound
import Derived.RangeFuncCalls
import Derived.RangeFuncLeaves
import Derived.Shelf.Abstract
import Derived.Shelf.RegionOpen
import Derived.OwnWalkIn
import Derived.TacticsInMore
import Derived.LoopNIn
import Derived.LoopIn
namespace Go.Proofs.YtpicjikjinkkpaaDoor
open Go.RowKit Go.Shelf
attribute [local go_sem] Oper.semAt_some

theorem bits_make (s : Nat) (w : World) : Calls Tryd.prog 61 #[nv s] w fun e w' => e = .returned (.func (.func 75) #[] #[.pointer (some ⟨w.heap.size, 0, none⟩)]) ∧ w.alloc (.cells #[nv s] 3) = w' := by
  go_enter Tryd.func61, Tryd.ntmps61
  go_wp2
  go_ret
  exact ⟨rfl, rfl⟩

/-- a thing of a set -/
abbrev El (s : Nat) := { x : Nat // s.testBit x = true }

theorem u64_of_i64 (s : Nat) (hs : s < 4096) : IntKind.u64.wrap (s : Int) = (s : Int) := by
  exact IntWalk.u64_in _ (by constructor <;> omega)

set_option maxHeartbeats 2000000 in
theorem bits_stops (n : Nat) (hn : 1 ≤ n) (Bs n₀ s : Nat) (hs : s < 4096) (w : World) (hT : Tab w) (hTn : 2 < n₀) (hbox : w.cell? ⟨Bs, 0, none⟩ = some (nv s)) :
    SeqStopsK Fence.wide n Tryd.prog 75 #[.pointer (some ⟨Bs, 0, none⟩)] (fun x : El s => #[nv x.1]) (Below n₀) (fun xs => xs.map (·.1) = bitsOf s) (fun _ => True) (bitsOf s).length w := by
  intro l J Jx W hW hJ hJx hY h0
  have hbW : W.cell? ⟨Bs, 0, none⟩ = some (nv s) := (hW.cell (p := ⟨Bs, 0, none⟩) (World.block_lt_of_cell? w _ hbox)).trans hbox
  have hTW : Tab W := hT.below hW
  have HJ := Lib.hid hJ
  have HJx := Lib.hid hJx
  have HY := Lib.hid hY
  have HT := Lib.hid hTW
  have hu := u64_of_i64 s hs
  clear hJ hJx hY hTW hT hbox hW
  refine callsIn_of_wp Tryd.func75 rfl trivial ?_ rfl
  simp only [Tryd.ntmps75, List.size_toArray, List.length_cons, List.length_nil, Nat.reduceAdd, Nat.reduceSub, Array.replicate_succ, Array.replicate_zero, List.push_toArray, List.append_toArray, List.nil_append, List.cons_append]
  gi_wp2_with fail
  gi_loopw [3] (fun r wr => ∃ (pre : List (El s)) (y : Nat), r = .int .u64 y ∧ y < 4096 ∧ Hid (pre.map (·.1) ++ bitsOf y = bitsOf s) ∧ Hid (Tab wr) ∧ Hid (J pre wr)) (fun r _ => (intOf r).toNat)
  case atStart => exact ⟨[], s, rfl, hs, Lib.hid rfl, HT, Lib.hid h0⟩
  case round =>
    clear hu hbW HT h0
    obtain ⟨pre, y, rfl, hy, hpre, hTw, hJs⟩ := hrel
    by_cases hy0 : 0 < y
    · obtain ⟨k, hk, hlow, hA, hR, hB⟩ := low_spec y hy0 hy
      have hmem : k ∈ bitsOf s := by rw [← hpre.out, hB]; simp
      have hsk := (mem_bitsOf hs).1 hmem
      obtain ⟨fn, tmps, assign, body, hyld, hRd⟩ := HY.out pre ⟨k, hsk⟩ wr hJs.out (by rw [← hpre.out, hB]; simp)
      have HRd := Lib.hid hRd
      have HTZ := Lib.hid (tz_calls y k wr hTw.out hy0 hk hA)
      have HR := Lib.hid hR
      have HBB := Lib.hid hB
      have hne : ((y : Int) != 0) = true := by simp; omega
      clear hlow hA hR hB hmem hRd
      gi_wp2_with fail
      refine ⟨trivial, ?_⟩
      refine (callsIn_wide.2 HTZ.out).mono ?_
      rintro e w' ⟨rfl, rfl⟩
      clear HTZ
      gi_wp2_with fail
      refine HRd.out.mono ?_
      rintro e W' (⟨rfl, hJ', hk'⟩ | ⟨rfl, hJx'⟩)
      · have hT' := Lib.hid (hTw.out.keep hk' hTn)
        have HJ' := Lib.hid hJ'
        clear hJ' HRd hk'
        gi_wp2_with fail
        go_roundw
        case rel => exact ⟨pre ++ [⟨k, hsk⟩], y - 2 ^ k, by rw [HR.out], Nat.lt_of_le_of_lt (Nat.sub_le _ _) hy, Lib.hid (by rw [← hpre.out, HBB.out]; simp), hT', HJ'⟩
        case measure =>
          have : 0 < 2 ^ k := Nat.two_pow_pos k
          simp [intOf, HR.out]
          generalize 2 ^ k = z at *
          omega
      · clear HRd
        gi_wp2_with fail
        refine bodyPost_ret (results_none rfl _ _ _) rfl ?_
        exact ⟨⟨_, rfl⟩, .inr ⟨_, trivial, hJx'⟩⟩
    · have hy0' : y = 0 := by omega
      subst hy0'
      have hfin := hpre.out
      rw [show bitsOf 0 = [] by decide, List.append_nil] at hfin
      have HFIN := Lib.hid hfin
      clear hfin hpre hy0
      gi_wp2_with fail
      go_end0
      exact ⟨⟨_, rfl⟩, .inl ⟨pre, HFIN.out, hJs.out⟩⟩

end Go.Proofs.YtpicjikjinkkpaaDoor
