/- The walk of the statement TopHistory: at every input it returns true. Conditions: none. (Printed by wip/gen/toph.py.) -/
import Derived.Test.YtjmjifcaobkobaaReads
import Derived.Test.YtjmjifcaobkobaaTopHM
import Derived.Test.YtjmjifcaobkobaaHFact
import Derived.Deep.AppendLies
namespace Go.Proofs.Ytjmjifcaobkobaa
open Go.RowKit His

set_option maxRecDepth 20000 in
theorem reads_bad (s : List Act3) (v : Value) (w : World) (hr : Acts w w.heap.size v s) (hne : actsCode s ≠ 0) :
    Calls Try.prog 11 #[v] w fun e w' => e = .returned (.tuple #[.slice none 0 0, .iface 57 (nv (actsCode s))]) ∧ Below w.heap.size w w' := by
  have hchk := Lib.hid (check_calls s v w hr hne)
  obtain ⟨A, cap, rfl⟩ := Rd.val hr
  generalize actsCode s = c at *
  clear hr hne
  go_enter Try.func11, Try.ntmps11
  go_wp2_with fail
  (with_reducible refine hchk.out.mono ?_)
  rintro e w1 ⟨rfl, hb1⟩
  clear hchk
  go_wp2_with fail
  go_ret2
  exact ⟨rfl, hb1⟩

def twoT : List Sch.N3 := [(0, 0, 1), (1, 0, 0)]
theorem twoT_reads : Sch.reads twoT = [-1, 0] := by decide
theorem nat_acts {s : List Act3} (h : actsCode s = 0) : ∃ t : List Sch.N3, s = Sch.zacts t ∧ t.length ≤ 24 ∧ ∀ a ∈ t, Sch.Ok3 a := by
  obtain ⟨h1, h2⟩ := actsCode_zero h
  refine ⟨s.map fun a => (a.1.toNat, a.2.1.toNat, a.2.2.toNat), ?_, by simpa using h1, ?_⟩
  · unfold Sch.zacts
    rw [List.map_map]
    conv => lhs; rw [← List.map_id s]
    refine List.map_congr_left fun a ha => ?_
    obtain ⟨⟨a0, _⟩, ⟨a1, _⟩, a2, _⟩ := h2 a ha
    obtain ⟨x, y, z⟩ := a
    simp only [Function.comp, Sch.z3, id, Prod.mk.injEq] at *
    omega
  · intro b hb
    obtain ⟨a, ha, rfl⟩ := List.mem_map.1 hb
    obtain ⟨⟨a0, b0⟩, ⟨a1, b1⟩, a2, b2⟩ := h2 a ha
    unfold Sch.Ok3
    simp only
    omega

theorem heap_newH (w : World) (cs : Array Value) (t : TypeId) {n : Nat} (h : n = w.heap.size) : (w.alloc (.cells cs t)).drew.heap[n]? = some (.cells cs t (0, 0)) := by
  subst h
  exact (MapKept.heap_alloc w _).1

attribute [-go_sem] Builtin.append_
set_option maxRecDepth 20000 in
set_option maxHeartbeats 8000000 in
theorem toph_ok (t : List Sch.N3) (v : Value) (w : World) (hr : Acts w w.heap.size v (Sch.zacts t)) (hlen : t.length ≤ 10) (hok : ∀ a ∈ t, Sch.Ok3 a) :
    Calls Try.prog 6 #[v] w fun e w' => e = .returned (.bool true) ∧ Below w.heap.size w w' := by
  have hrd := Lib.hid fun (w1 : World) (hb : Below w.heap.size w w1) => reads_ok t v w1 ((Rd.below hr hb).more hb.size) (by omega) hok
  have hrow := Lib.hid fun (h3 : ∀ i, i < t.length → (t.getD i Sch.d3).2.1 < 3) => top_row hlen hok h3
  have hweak := Lib.hid fun (h3 : ∀ i, i < t.length → (t.getD i Sch.d3).2.1 < 3) => top_weak hlen hok h3
  have hhok := Lib.hid fun (h3 : ∀ i, i < t.length → (t.getD i Sch.d3).2.1 < 3) => topH_ok hlen hok h3
  obtain ⟨A, cap, rfl⟩ := Rd.val hr
  have HR := Lib.hid hr
  have HOK := Lib.hid fun k => Sch.getD_ok hok k
  have hlen' := hlen
  rw [Sch.length_zacts] at *
  clear hr hok
  go_enter Try.func6, Try.ntmps6
  go_wp2_with fail
  have hl1 := Rd.lit w (acells (Sch.zacts twoT)).toArray 38 3 2 2 rfl (by omega) (by decide)
  have h1 := Lib.hid (reads_ok twoT (.slice (some ⟨w.heap.size, 0, none⟩) 2 2) (w.alloc (.cells (acells (Sch.zacts twoT)).toArray 38)) (by
    have := hl1.more (B' := (w.alloc (.cells (acells (Sch.zacts twoT)).toArray 38)).heap.size) (by simp)
    exact this) (by decide) (by decide))
  clear hl1
  refine h1.out.mono ?_
  rintro e w1 ⟨v1, rfl, hown1, hb1⟩
  rw [twoT_reads] at hown1
  have hb0 := ((Below.refl w.heap.size w).alloc (Nat.le_refl _) (.cells (acells (Sch.zacts twoT)).toArray 38)).trans (hb1.mono (by simp))
  clear h1 hb1
  have hs1 := hb0.size
  go_wp2_with fail
  have hi := (hown1.alloc (.cells #[iv (-1), iv 0] 3)).ints
  have hl := Ints.lit w1 [-1, 0] 3 (by decide)
  rw [World.size_alloc] at hi
  refine (ints_calls _ _ _ _ (w1.heap.size + 1) _ (by simp) hi hl).mono ?_
  rintro e w2 ⟨rfl, hb2⟩
  have hb3 := (hb0.alloc hs1 (.cells #[iv (-1), iv 0] 3)).trans (hb2.mono (by simp; omega))
  clear hi hl hb2 hb0 hown1
  go_wp2_with fail
  (with_reducible refine (hrd.out _ hb3).mono ?_)
  rintro e w4 ⟨v4, rfl, hown4, hb4⟩
  have hb5 := hb3.trans (hb4.mono hb3.size)
  obtain ⟨A4, c4, rfl⟩ := Rd.val hown4.ints
  rw [Sch.length_reads] at *
  have HO4 := Lib.hid hown4
  clear hb4 hb3 hown4 hrd
  go_wp2_with fail
  go_loopw [7, 8] (fun ho i wr => ∃ (k : Nat) (vh : Value), k ≤ t.length ∧ i = nv k ∧ ho = vh ∧ OwnO wr w4.heap.size vh (zops (topTo t k)) ∧ Below w4.heap.size w4 wr ∧ w4.heap.size ≤ wr.heap.size ∧ Hid (∀ i, i < k → (t.getD i Sch.d3).2.1 < 3)) (fun _ i _ => t.length - (intOf i).toNat)
  case atStart => exact ⟨0, _, Nat.zero_le _, rfl, rfl, OwnO.nil _ _, Below.refl _ _, Nat.le_refl _, Lib.hid (fun i hi => by omega)⟩
  case round =>
    obtain ⟨k, vh, hk, rfl, hvh, hoh, hb, hszb, hit3⟩ := hrel
    replace hvh := hvh.symm
    subst hvh
    have hbw := hb5.trans (hb.mono hb5.size)
    by_cases hkl : k < t.length
    · obtain ⟨b, off, cap2, he, hlc, hcm, hbB, d0, d1, d2⟩ := Acts.atN (Rd.below HR.out hbw) hkl
      cases he
      obtain ⟨r0, r1, r2⟩ := HOK.out k
      have HTOP := Lib.hid (show [top t k] = [((t.getD k Sch.d3).1, (t.getD k Sch.d3).2.1, (t.getD k Sch.d3).2.2, tval t k, 2 * k, 2 * k + 1)] from rfl)
      have HTV := Lib.hid (show tval t k = if (t.getD k Sch.d3).2.2 = 1 then k + 1 else (Sch.lastW t (t.getD k Sch.d3).2.1 k + 1).toNat from rfl)
      have HRA := Lib.hid (show Sch.readAt t k = if (t.getD k Sch.d3).2.2 = 1 then -1 else Sch.lastW t (t.getD k Sch.d3).2.1 k from rfl)
      have HLT := Lib.hid (Sch.lastW_lt t (t.getD k Sch.d3).2.1 k)
      have HITN := Lib.hid fun (h : (t.getD k Sch.d3).2.1 < 3) => show ∀ i, i < k + 1 → (t.getD i Sch.d3).2.1 < 3 from fun i hi => by
        by_cases e : i = k
        · subst e; exact h
        · exact hit3.out i (by omega)
      have hkr : k < (Sch.reads t).length := by rw [Sch.length_reads]; exact hkl
      obtain ⟨b4, o4, c5, he4, hbb4, e4⟩ := Ints.at_ (HO4.out.kept hb).ints hkr
      have hre : (Sch.reads t)[k] = Sch.readAt t k := by simp [Sch.reads]
      rw [hre] at e4
      rw [Sch.length_reads] at he4
      cases he4
      clear hre hkr
      generalize t.getD k Sch.d3 = a at *
      obtain ⟨x, it, wt⟩ := a
      simp only at d0 d1 d2 r0 r1 r2 HTOP HTV HRA HLT HITN
      obtain ⟨i0, hi0, hz0, hz1, hz2⟩ := info_parts Try.infoOp
      by_cases hit : it < 3
      · have HITN := Lib.hid (HITN.out hit)
        have t1 : decide ((2 : Int) < (it : Int)) = false := by simp; omega
        clear hit
        by_cases hw : wt = 1
        · subst hw
          have HTV := Lib.hid (show tval t k = k + 1 by rw [HTV.out, if_pos rfl])
          clear e4 HRA
          have hx1 := tval_le t k
          have hvt : ((tval t k : Nat) : Int) = (k : Int) + 1 := by rw [HTV.out]; omega
          have hbk : (k : Int) + 1 ≤ 11 := by omega
          have hoh' : wr.ownsRow w4.heap.size 32 6 vh k (ocells (zops (topTo t k))) := by
            have := hoh
            unfold OwnO at this
            rwa [length_zops, length_topTo] at this
          go_wp2_with fail
          obtain ⟨gg, cap9, w9, hrun, hown9, hgrow, hat, hlt9⟩ := run_append_lies (P := Try.prog) ((wr.alloc (.cells #[nv x, nv it, nv 1, .int .i64 ((k : Int) + 1), .int .i64 (2 * (k : Int)), .int .i64 (2 * (k : Int) + 1)] 32)).drew) 22 22 w4.heap.size 32 i0 _ 6 48 Try.underlying22 hi0 hz0 hz1 hz2 rfl (by omega) vh k (ocells (zops (topTo t k))) (World.ownsRow.drew (World.ownsRow.alloc hoh' _)) ⟨wr.heap.size, 0, none⟩ 1 1 [nv x, nv it, nv 1, .int .i64 ((k : Int) + 1), .int .i64 (2 * (k : Int)), .int .i64 (2 * (k : Int) + 1)] (by rfl) (World.news_of_block (cs := #[nv x, nv it, nv 1, .int .i64 ((k : Int) + 1), .int .i64 (2 * (k : Int)), .int .i64 (2 * (k : Int) + 1)]) (t := 32) (fr := (0, 0)) (heap_newH _ _ _ rfl)) (by simp [Value.oneCell']) (by omega) (by unfold maxLen; omega) (by omega) (by simp; omega) (wr.heap.size + 1) (by simp)
          have HCE : [nv x, nv it, nv 1, .int .i64 ((k : Int) + 1), .int .i64 (2 * (k : Int)), .int .i64 (2 * (k : Int) + 1)] = ocells (zops [(x, it, 1, tval t k, 2 * k, 2 * k + 1)]) := by
            show _ = [iv _, iv _, iv _, iv ((tval t k : Nat) : Int), iv ((2 * k : Nat) : Int), iv ((2 * k + 1 : Nat) : Int)]
            rw [hvt]; rfl
          have HOW := Lib.hid (show OwnO w9 w4.heap.size (.slice (some ⟨gg, 0, none⟩) (k + 1) cap9) (zops (topTo t (k + 1))) by
            rw [topTo_next, zops_append, HTOP.out]
            unfold OwnO
            rw [List.length_append, length_zops, length_topTo, show ocells (zops (topTo t k) ++ zops [(x, it, 1, tval t k, 2 * k, 2 * k + 1)]) = ocells (zops (topTo t k)) ++ ocells (zops [(x, it, 1, tval t k, 2 * k, 2 * k + 1)]) from List.flatMap_append, ← HCE]
            exact hown9)
          have HBW := Lib.hid (((hb.alloc (o := .cells #[nv x, nv it, nv 1, .int .i64 ((k : Int) + 1), .int .i64 (2 * (k : Int)), .int .i64 (2 * (k : Int) + 1)] 32) hszb).drew).grown hgrow (by simp; omega) (fun kk hkk => (row_lt hoh' kk hkk).1))
          have HSZ := Lib.hid hgrow.size
          clear hown9 hgrow hat hlt9 hz0 hz1 hz2 hi0 hoh' HCE hvt hx1
          go_region
          all_goals
            go_wp2_with fail
            go_roundw
            case rel => exact ⟨k + 1, _, by omega, by go_num, rfl, HOW.out, HBW.out, by have h1 := HSZ.out; simp at h1; omega, HITN⟩
            case measure => simp [intOf]; omega
        · have hw0 : wt = 0 := by omega
          subst hw0
          have HRA := Lib.hid (show Sch.readAt t k = Sch.lastW t it k by rw [HRA.out]; rfl)
          have HTV := Lib.hid (show tval t k = (Sch.lastW t it k + 1).toNat by rw [HTV.out]; rfl)
          rw [HRA.out] at e4
          obtain ⟨q1, q2⟩ := HLT.out
          generalize Sch.lastW t it k = y at *
          by_cases hy : 0 ≤ y
          · have t2 : decide (0 ≤ y) = true := by simpa using hy
            have HTV := Lib.hid (show ((tval t k : Nat) : Int) = y + 1 by rw [HTV.out]; omega)
            clear hy HRA
            have hx1 := tval_le t k
            have hvt := HTV.out
            have hbk : (k : Int) + 1 ≤ 11 := by omega
            have hoh' : wr.ownsRow w4.heap.size 32 6 vh k (ocells (zops (topTo t k))) := by
              have := hoh
              unfold OwnO at this
              rwa [length_zops, length_topTo] at this
            go_wp2_with fail
            obtain ⟨gg, cap9, w9, hrun, hown9, hgrow, hat, hlt9⟩ := run_append_lies (P := Try.prog) ((wr.alloc (.cells #[nv x, nv it, nv 0, .int .i64 (y + 1), .int .i64 (2 * (k : Int)), .int .i64 (2 * (k : Int) + 1)] 32)).drew) 22 22 w4.heap.size 32 i0 _ 6 48 Try.underlying22 hi0 hz0 hz1 hz2 rfl (by omega) vh k (ocells (zops (topTo t k))) (World.ownsRow.drew (World.ownsRow.alloc hoh' _)) ⟨wr.heap.size, 0, none⟩ 1 1 [nv x, nv it, nv 0, .int .i64 (y + 1), .int .i64 (2 * (k : Int)), .int .i64 (2 * (k : Int) + 1)] (by rfl) (World.news_of_block (cs := #[nv x, nv it, nv 0, .int .i64 (y + 1), .int .i64 (2 * (k : Int)), .int .i64 (2 * (k : Int) + 1)]) (t := 32) (fr := (0, 0)) (heap_newH _ _ _ rfl)) (by simp [Value.oneCell']) (by omega) (by unfold maxLen; omega) (by omega) (by simp; omega) (wr.heap.size + 1) (by simp)
            have HCE : [nv x, nv it, nv 0, .int .i64 (y + 1), .int .i64 (2 * (k : Int)), .int .i64 (2 * (k : Int) + 1)] = ocells (zops [(x, it, 0, tval t k, 2 * k, 2 * k + 1)]) := by
              show _ = [iv _, iv _, iv _, iv ((tval t k : Nat) : Int), iv ((2 * k : Nat) : Int), iv ((2 * k + 1 : Nat) : Int)]
              rw [hvt]; rfl
            have HOW := Lib.hid (show OwnO w9 w4.heap.size (.slice (some ⟨gg, 0, none⟩) (k + 1) cap9) (zops (topTo t (k + 1))) by
              rw [topTo_next, zops_append, HTOP.out]
              unfold OwnO
              rw [List.length_append, length_zops, length_topTo, show ocells (zops (topTo t k) ++ zops [(x, it, 0, tval t k, 2 * k, 2 * k + 1)]) = ocells (zops (topTo t k)) ++ ocells (zops [(x, it, 0, tval t k, 2 * k, 2 * k + 1)]) from List.flatMap_append, ← HCE]
              exact hown9)
            have HBW := Lib.hid (((hb.alloc (o := .cells #[nv x, nv it, nv 0, .int .i64 (y + 1), .int .i64 (2 * (k : Int)), .int .i64 (2 * (k : Int) + 1)] 32) hszb).drew).grown hgrow (by simp; omega) (fun kk hkk => (row_lt hoh' kk hkk).1))
            have HSZ := Lib.hid hgrow.size
            clear hown9 hgrow hat hlt9 hz0 hz1 hz2 hi0 hoh' HCE hvt hx1
            go_region
            all_goals
              go_wp2_with fail
              go_roundw
              case rel => exact ⟨k + 1, _, by omega, by go_num, rfl, HOW.out, HBW.out, by have h1 := HSZ.out; simp at h1; omega, HITN⟩
              case measure => simp [intOf]; omega
          · have hy1 : y = -1 := by omega
            subst hy1
            have HTV := Lib.hid (show ((tval t k : Nat) : Int) = 0 by rw [HTV.out]; rfl)
            clear hy HRA
            have hx1 := tval_le t k
            have hvt := HTV.out
            have hbk : (k : Int) + 1 ≤ 11 := by omega
            have hoh' : wr.ownsRow w4.heap.size 32 6 vh k (ocells (zops (topTo t k))) := by
              have := hoh
              unfold OwnO at this
              rwa [length_zops, length_topTo] at this
            go_wp2_with fail
            obtain ⟨gg, cap9, w9, hrun, hown9, hgrow, hat, hlt9⟩ := run_append_lies (P := Try.prog) ((wr.alloc (.cells #[nv x, nv it, nv 0, .int .i64 (0), .int .i64 (2 * (k : Int)), .int .i64 (2 * (k : Int) + 1)] 32)).drew) 22 22 w4.heap.size 32 i0 _ 6 48 Try.underlying22 hi0 hz0 hz1 hz2 rfl (by omega) vh k (ocells (zops (topTo t k))) (World.ownsRow.drew (World.ownsRow.alloc hoh' _)) ⟨wr.heap.size, 0, none⟩ 1 1 [nv x, nv it, nv 0, .int .i64 (0), .int .i64 (2 * (k : Int)), .int .i64 (2 * (k : Int) + 1)] (by rfl) (World.news_of_block (cs := #[nv x, nv it, nv 0, .int .i64 (0), .int .i64 (2 * (k : Int)), .int .i64 (2 * (k : Int) + 1)]) (t := 32) (fr := (0, 0)) (heap_newH _ _ _ rfl)) (by simp [Value.oneCell']) (by omega) (by unfold maxLen; omega) (by omega) (by simp; omega) (wr.heap.size + 1) (by simp)
            have HCE : [nv x, nv it, nv 0, .int .i64 (0), .int .i64 (2 * (k : Int)), .int .i64 (2 * (k : Int) + 1)] = ocells (zops [(x, it, 0, tval t k, 2 * k, 2 * k + 1)]) := by
              show _ = [iv _, iv _, iv _, iv ((tval t k : Nat) : Int), iv ((2 * k : Nat) : Int), iv ((2 * k + 1 : Nat) : Int)]
              rw [hvt]; rfl
            have HOW := Lib.hid (show OwnO w9 w4.heap.size (.slice (some ⟨gg, 0, none⟩) (k + 1) cap9) (zops (topTo t (k + 1))) by
              rw [topTo_next, zops_append, HTOP.out]
              unfold OwnO
              rw [List.length_append, length_zops, length_topTo, show ocells (zops (topTo t k) ++ zops [(x, it, 0, tval t k, 2 * k, 2 * k + 1)]) = ocells (zops (topTo t k)) ++ ocells (zops [(x, it, 0, tval t k, 2 * k, 2 * k + 1)]) from List.flatMap_append, ← HCE]
              exact hown9)
            have HBW := Lib.hid (((hb.alloc (o := .cells #[nv x, nv it, nv 0, .int .i64 (0), .int .i64 (2 * (k : Int)), .int .i64 (2 * (k : Int) + 1)] 32) hszb).drew).grown hgrow (by simp; omega) (fun kk hkk => (row_lt hoh' kk hkk).1))
            have HSZ := Lib.hid hgrow.size
            clear hown9 hgrow hat hlt9 hz0 hz1 hz2 hi0 hoh' HCE hvt hx1
            go_region
            all_goals
              go_wp2_with fail
              go_roundw
              case rel => exact ⟨k + 1, _, by omega, by go_num, rfl, HOW.out, HBW.out, by have h1 := HSZ.out; simp at h1; omega, HITN⟩
              case measure => simp [intOf]; omega
      · have t1 : decide ((2 : Int) < (it : Int)) = true := by simp; omega
        clear hit hi0 hz0 hz1 hz2
        go_wp2_with fail
        go_ret
        exact ⟨rfl, hbw⟩
    · obtain rfl : k = t.length := by omega
      have HT := Lib.hid (show OwnO wr w4.heap.size vh (zops (topH t)) from hoh)
      have hok2 := hhok.out hit3.out
      have ha := Lib.hid (atomic_ok (topH t) hok2 vh wr HT.out.ops (code_ok hok2))
      rw [hrow.out hit3.out] at ha
      have hwk := Lib.hid fun (w5 : World) (hb5 : Below wr.heap.size wr w5) => weak_ok (topH t) hok2 vh w5 (HT.out.kept hb5).ops (code_ok hok2)
      have HWS := Lib.hid (hweak.out hit3.out)
      obtain ⟨Ah, ch, hvh2⟩ := Rd.val HT.out.ops
      rw [length_zops, length_topH] at hvh2
      subst hvh2
      clear hoh hok2 hkl hrow hweak hhok hit3
      go_wp2_with fail
      (with_reducible refine ha.out.mono ?_)
      rintro e w6 ⟨v6, rfl, hown6, hb6⟩
      simp only [Option.getD_some] at hown6
      have hb7 := hbw.trans (hb6.mono hbw.size)
      clear ha
      generalize (rowOf false (topH t)).isSome = wks at *
      obtain rfl : wks = true := HWS.out
      go_wp2_with fail
      (with_reducible refine (hwk.out _ hb6).mono ?_)
      rintro e w8 ⟨v8, rfl, -, hb8⟩
      have hb9 := hb7.trans (hb8.mono hb7.size)
      have HO := Lib.hid (hown6.kept hb8)
      clear hwk hb6 hb7 hb8 hown6
      obtain ⟨A6, c6, hv6⟩ := Rd.val HO.out.ints
      rw [length_zs, List.length_range] at hv6
      subst hv6
      go_wp2_with fail
      go_loopw [16] (fun i wr => ∃ k : Nat, k ≤ t.length ∧ i = nv k ∧ Below w8.heap.size w8 wr) (fun i _ => t.length - (intOf i).toNat)
      case atStart => exact ⟨0, Nat.zero_le _, rfl, Below.refl _ _⟩
      case round =>
        obtain ⟨k, hk, rfl, hbl⟩ := hrel
        by_cases hkl : k < t.length
        · obtain ⟨b7, o7, c7, he7, hbb7, e7⟩ := Ints.atN (HO.out.kept hbl).ints (k := k) (by rw [List.length_range]; exact hkl)
          rw [List.length_range] at he7
          cases he7
          have hgd : (List.range t.length).getD k 0 = k := by simp [List.getD_eq_getElem?_getD, List.getElem?_range hkl]
          rw [hgd] at e7
          go_wp2_with fail
          go_roundw
          case rel => exact ⟨k + 1, by omega, by go_num, hbl⟩
          case measure => simp [intOf]; omega
        · obtain rfl : k = t.length := by omega
          go_wp2_with fail
          go_ret
          exact ⟨rfl, hb9.trans (hbl.mono hb9.size)⟩

set_option maxRecDepth 20000 in
set_option maxHeartbeats 2000000 in
theorem toph_head (s : List Act3) (v : Value) (w : World) (hr : Acts w w.heap.size v s) (hcase : actsCode s ≠ 0 ∨ (10 < s.length ∧ ∃ t : List Sch.N3, s = Sch.zacts t ∧ t.length ≤ 24 ∧ ∀ a ∈ t, Sch.Ok3 a)) :
    Calls Try.prog 6 #[v] w fun e w' => e = .returned (.bool true) ∧ Below w.heap.size w w' := by
  have hrd := Lib.hid fun (w1 : World) (hb : Below w.heap.size w w1) => show (Calls Try.prog 11 #[v] w1 fun e w' => e = .returned (.tuple #[.slice none 0 0, .iface 57 (nv (actsCode s))]) ∧ Below w1.heap.size w1 w') ∨ (10 < s.length ∧ Calls Try.prog 11 #[v] w1 fun e w' => ∃ v', e = .returned (.tuple #[v', .nilIface]) ∧ Below w1.heap.size w1 w') from by
    rcases hcase with hne | ⟨h10, t, rfl, h24, hok⟩
    · exact .inl (reads_bad s v w1 ((Rd.below hr hb).more hb.size) hne)
    · refine .inr ⟨h10, (reads_ok t v w1 ((Rd.below hr hb).more hb.size) h24 hok).mono ?_⟩
      rintro e w' ⟨v', rfl, _, h⟩
      exact ⟨v', rfl, h⟩
  obtain ⟨A, cap, rfl⟩ := Rd.val hr
  have hle := Rd.le hr
  clear hr hcase
  go_enter Try.func6, Try.ntmps6
  go_wp2_with fail
  have hl1 := Rd.lit w (acells (Sch.zacts twoT)).toArray 38 3 2 2 rfl (by omega) (by decide)
  have h1 := Lib.hid (reads_ok twoT (.slice (some ⟨w.heap.size, 0, none⟩) 2 2) (w.alloc (.cells (acells (Sch.zacts twoT)).toArray 38)) (by
    have := hl1.more (B' := (w.alloc (.cells (acells (Sch.zacts twoT)).toArray 38)).heap.size) (by simp)
    exact this) (by decide) (by decide))
  clear hl1
  refine h1.out.mono ?_
  rintro e w1 ⟨v1, rfl, hown1, hb1⟩
  rw [twoT_reads] at hown1
  have hb0 := ((Below.refl w.heap.size w).alloc (Nat.le_refl _) (.cells (acells (Sch.zacts twoT)).toArray 38)).trans (hb1.mono (by simp))
  clear h1 hb1
  have hs1 := hb0.size
  go_wp2_with fail
  have hi := (hown1.alloc (.cells #[iv (-1), iv 0] 3)).ints
  have hl := Ints.lit w1 [-1, 0] 3 (by decide)
  rw [World.size_alloc] at hi
  refine (ints_calls _ _ _ _ (w1.heap.size + 1) _ (by simp) hi hl).mono ?_
  rintro e w2 ⟨rfl, hb2⟩
  have hb3 := (hb0.alloc hs1 (.cells #[iv (-1), iv 0] 3)).trans (hb2.mono (by simp; omega))
  clear hi hl hb2 hb0 hown1
  rcases hrd.out w2 hb3 with h4 | ⟨h10, h4⟩
  · have h4 := Lib.hid h4
    clear hrd
    go_wp2_with fail
    (with_reducible refine h4.out.mono ?_)
    rintro e w4 ⟨rfl, hb4⟩
    have hb5 := hb3.trans (hb4.mono hb3.size)
    clear h4
    go_wp2_with fail
    go_ret
    exact ⟨rfl, hb5⟩
  · have h4 := Lib.hid h4
    have t1 : decide ((10 : Int) < (s.length : Int)) = true := by simp; omega
    clear hrd
    go_wp2_with fail
    (with_reducible refine h4.out.mono ?_)
    rintro e w4 ⟨v4, rfl, hb4⟩
    have hb5 := hb3.trans (hb4.mono hb3.size)
    clear h4
    go_wp2_with fail
    go_ret
    exact ⟨rfl, hb5⟩

/-- the law at every input -/
theorem toph_calls (v : Value) (recs : List (List Int)) (w : World) (hr : Rd w w.heap.size 3 v recs.length (recs.flatMap fun r => r.map iv)) (hl : ∀ r ∈ recs, r.length = 3) :
    Calls Try.prog 6 #[v] w fun e w' => e = .returned (.bool true) ∧ Below w.heap.size w w' := by
  obtain ⟨s, hs⟩ := acts_of_recs hr hl
  by_cases hc : actsCode s = 0
  · obtain ⟨t, rfl, h1, h2⟩ := nat_acts hc
    by_cases h10 : t.length ≤ 10
    · exact toph_ok t v w hs h10 h2
    · exact toph_head _ v w hs (.inr ⟨by simp; omega, t, rfl, h1, h2⟩)
  · exact toph_head s v w hs (.inl hc)
end Go.Proofs.Ytjmjifcaobkobaa
