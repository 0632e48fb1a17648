/- Contracts of package extend: ahead, Count. Conditions: each contract's own premises. -/
import Derived.Test.YtpicjikjinkkpaaDoorExtM
import Derived.Test.YtpicjikjinkkpaaDoorTurned
namespace Go.Proofs.YtpicjikjinkkpaaDoor
open Go.RowKit

theorem Own.rep0 {w : World} {base g n cap : Nat} (h : Own w base (.slice (some ⟨g, 0, none⟩) n cap) (List.replicate n 0)) (hn : 0 < n) : w.cell? ⟨g, 0, none⟩ = some (.int .i64 0) ∧ w.frozen? ⟨g, 0, none⟩ = false := by
  obtain ⟨gb, gl, gc, gf, gst⟩ := h.lit
  have := gc 0 (by simpa using hn)
  rw [List.getElem_replicate] at this
  exact ⟨this, gf 0⟩

theorem ahead_err (l : List Int) (v : Value) (w : World) (hr : Ints w w.heap.size v l) (hne : orderCode l ≠ 0) :
    Calls Tryd.prog 65 #[v] w fun e w' => e = .returned (.tuple #[.slice none 0 0, .iface 56 (nv (orderCode l))]) ∧ Below w.heap.size w w' := by
  have h := Lib.hid (turned_err l v w hr hne)
  go_enter Tryd.func65, Tryd.ntmps65
  go_wp2_with fail
  refine h.out.mono ?_
  rintro e w1 ⟨rfl, hb1⟩
  clear h hr
  go_wp2_with fail
  go_ret2
  exact ⟨rfl, hb1⟩
theorem ahead_ok (m : List Nat) (v : Value) (w : World) (hr : Ints w w.heap.size v (zs m)) (hv : Odr.Valid m) (hT : Tab w) :
    Calls Tryd.prog 65 #[v] w fun e w' => ∃ v', e = .returned (.tuple #[v', .nilIface]) ∧ Own w' w.heap.size v' (zs (Odr.turned m)) ∧ Below w.heap.size w w' := by
  have h := Lib.hid (turned_ok m v w hr hv hT)
  clear hv
  go_enter Tryd.func65, Tryd.ntmps65
  go_wp2_with fail
  refine h.out.mono ?_
  rintro e w1 ⟨v1, rfl, ho, hb1⟩
  have HO := Lib.hid ho
  clear h hr ho
  go_wp2_with fail
  go_ret2
  exact ⟨v1, rfl, HO.out, hb1⟩
theorem ecount_err (l : List Int) (v : Value) (w : World) (hr : Ints w w.heap.size v l) (hne : orderCode l ≠ 0) :
    Calls Tryd.prog 31 #[v] w fun e w' => e = .returned (.tuple #[.int .i64 0, .iface 56 (nv (orderCode l))]) ∧ Below w.heap.size w w' := by
  have h := Lib.hid (ahead_err l v w hr hne)
  go_enter Tryd.func31, Tryd.ntmps31
  go_wp2_with fail
  refine h.out.mono ?_
  rintro e w1 ⟨rfl, hb1⟩
  clear h hr
  go_wp2_with fail
  go_ret2
  exact ⟨rfl, hb1⟩

set_option maxRecDepth 20000 in
set_option maxHeartbeats 2000000 in
theorem ecount_ok (m : List Nat) (v : Value) (w : World) (hr : Ints w w.heap.size v (zs m)) (hv : Odr.Valid m) (hT : Tab w) :
    Calls Tryd.prog 31 #[v] w fun e w' => e = .returned (.tuple #[nv (Odr.ways (Odr.turned m) m.length (2 ^ m.length - 1)), .nilIface]) ∧ Below w.heap.size w w' := by
  have h := Lib.hid (ahead_ok m v w hr hv hT)
  have hfew := hv.few
  have htl := Odr.length_turned m
  have hplt := Lib.hid (Odr.turned_getD_lt m)
  clear hv hr hT
  generalize Odr.turned m = pre at *
  generalize m.length = n at *
  go_enter Tryd.func31, Tryd.ntmps31
  go_wp2_with fail
  refine h.out.mono ?_
  rintro e w1 ⟨u, rfl, hown, hb1⟩
  clear h
  obtain ⟨A, cap, rfl⟩ := Rd.val hown.ints
  rw [length_zs, htl] at hown ⊢
  obtain ⟨N, hN⟩ : ∃ N, N = 2 ^ n := ⟨_, rfl⟩
  have hN12 : N ≤ 4096 := by rw [hN]; exact (show 2 ^ n ≤ 2 ^ 12 from Nat.pow_le_pow_right (by omega) hfew)
  have hN1 : 0 < N := by rw [hN]; exact Nat.two_pow_pos n
  have hwk : IntKind.i64.wrap (2 ^ n) = (N : Int) := by
    rw [show (2 : Int) ^ n = ((2 ^ n : Nat) : Int) by rw [Int.natCast_pow]; rfl, ← hN]
    exact IntWalk.i64_in _ (by constructor <;> omega)
  have hwk2 : wrap64 (2 ^ n) = (N : Int) := by
    rw [show (2 : Int) ^ n = ((2 ^ n : Nat) : Int) by rw [Int.natCast_pow]; rfl, ← hN]
    exact IntWalk.wrap64_in _ (by constructor <;> omega)
  have HN := Lib.hid hN
  clear hN
  go_wp2_with (at_make; refine make_ints rfl _ _ rfl w1.heap.size N rfl rfl (by omega) (Nat.le_refl _) ?_; intro w2 hown2 hb2; have g0 := (Own.rep0 hown2 hN1).1; have gf0 := (Own.rep0 hown2 hN1).2)
  obtain ⟨g, hg⟩ : ∃ g, g = w1.heap.size := ⟨_, rfl⟩
  have hst : Own (w2.setCell ⟨g, 0, none⟩ (.int .i64 1)) w1.heap.size (.slice (some ⟨g, 0, none⟩) N N) (zs (Odr.wlist pre n 0 0)) := by
    rw [hg]
    have := hown2.lit.2.2.2.2 0 1
    rw [Odr.wlist_start, ← HN.out, ← zs_set]
    simpa [zs] using this
  have hbst : Below w1.heap.size w1 (w2.setCell ⟨g, 0, none⟩ (.int .i64 1)) := hb2.setCell (p := ⟨g, 0, none⟩) (by simp [hg]) _
  have HOWN := Lib.hid hown
  have HB1 := Lib.hid hb1
  have HG := Lib.hid hg
  rw [← hg]
  clear hown2 g0 gf0 hb2 hown hb1 hg hwk hwk2
  go_loopw [25] (fun i wr => ∃ s : Nat, s ≤ N ∧ i = nv s ∧ Own wr w1.heap.size (.slice (some ⟨g, 0, none⟩) N N) (zs (Odr.wlist pre n s 0)) ∧ Below w1.heap.size w1 wr) (fun i _ => N - (intOf i).toNat)
  case atStart => exact ⟨0, Nat.zero_le _, rfl, hst, hbst⟩
  case round =>
    clear hst hbst
    obtain ⟨s, hs, rfl, ho, hb⟩ := hrel
    by_cases hsN : s < N
    · go_wp2_with fail
      go_loopw [30] (fun i wr => ∃ k : Nat, k ≤ n ∧ i = nv k ∧ Own wr w1.heap.size (.slice (some ⟨g, 0, none⟩) N N) (zs (Odr.wlist pre n s k)) ∧ Below w1.heap.size w1 wr) (fun i _ => n - (intOf i).toNat)
      case atStart => exact ⟨0, Nat.zero_le _, rfl, ho, hb⟩
      case round =>
        clear ho hb
        obtain ⟨k, hk, rfl, ho, hb⟩ := hrel
        by_cases hkn : k < n
        · have hs2 : s < 2 ^ n := by rw [← HN.out]; exact hsN
          obtain ⟨gb, gl, gc, gf, gst⟩ := ho.lit
          have gs := gc s (by rw [length_zs, Odr.length_wlist]; exact hs2)
          rw [zs_getElem, Odr.wlist_self hs2] at gs
          have hqb := Odr.ways_bound (pre := pre) hfew hs2
          obtain ⟨gp, cp, he, pb, pl, _, pc, pf, -⟩ := Own.shape (HOWN.out.kept hb) (by rw [length_zs, htl]; omega)
          rw [length_zs, htl] at he
          injection he with he1 he2 he3
          subst he1 he3
          clear he2
          have py := pc k (by rw [length_zs, htl]; exact hkn)
          rw [zs_getElem] at py
          have hy := Nat.lt_of_lt_of_le (hplt.out k) (by rw [← HN.out]; exact hN12)
          have hskip := Lib.hid (fun h => Odr.wlist_skip (pre := pre) (n := n) (s := s) (i := k) hkn h)
          have hstore := Lib.hid (fun h1 h2 => Odr.wlist_store (pre := pre) (n := n) (s := s) (i := k) hs2 hkn h1 h2)
          have hcl := Lib.hid (fun T (hT : T < 2 ^ n) => Nat.le_trans (Odr.wcell_le (pre := pre) (n := n) (s := s) (i := k) hT) (Odr.ways_bound hfew hT))
          have HO := Lib.hid ho
          have GC := Lib.hid gc
          have GST := Lib.hid gst
          have GF := Lib.hid gf
          clear gc gf gst pc pf ho hs2
          obtain ⟨q, hq⟩ : ∃ q, q = Odr.ways pre n s := ⟨_, rfl⟩
          obtain ⟨y, hyy⟩ : ∃ y, y = pre.getD k 0 := ⟨_, rfl⟩
          rw [← hq] at gs hqb hskip hstore
          rw [← hyy] at py hy hskip hstore
          clear hq hyy
          have hdf := bits_andNot y s (by omega) (by omega)
          by_cases hq0 : 0 < q
          · cases hbit : s.testBit k with
            | true =>
              have hO := Lib.hid (HO.out)
              rw [← hskip.out (.inl hbit)] at hO
              have hH := Lib.hid (has12 s k wr (by omega) (by omega))
              rw [hbit] at hH
              clear hskip hstore hbit HO hdf
              go_wp2_with fail
              refine hH.out.mono ?_
              rintro e w5 ⟨rfl, rfl⟩
              clear hH
              go_wp2_with fail
              go_roundw
              case rel => exact ⟨k + 1, by omega, by go_num, hO.out, hb⟩
              case measure => simp [intOf]; omega
            | false =>
              have hH := Lib.hid (has12 s k wr (by omega) (by omega))
              rw [hbit] at hH
              by_cases hd : Odr.diff y s = 0
              · have hz : (bits .andNot .i64 (y : Int) (s : Int) == 0) = true := by rw [hdf, hd]; rfl
                obtain ⟨hlt, heq⟩ := hstore.out hbit hd
                have hor2 : bits .or .i64 (s : Int) (wrap64 (2 ^ k)) = ((s ||| 2 ^ k : Nat) : Int) := bits_or_shl s k (by omega) (by omega)
                have hwk : IntKind.i64.wrap (2 ^ k) = wrap64 (2 ^ k) := by
                  rw [wrap_two_pow k (by omega)]
                  have h1 : 2 ^ k < 2 ^ 62 := Nat.pow_lt_pow_right (by omega) (by omega)
                  rw [show (2 : Int) ^ k = ((2 ^ k : Nat) : Int) by rw [Int.natCast_pow]; rfl]
                  generalize 2 ^ k = y at h1 ⊢
                  exact IntWalk.i64_in _ (by constructor <;> omega)
                have hor1 : bits .or .i64 (s : Int) (IntKind.i64.wrap (2 ^ k)) = ((s ||| 2 ^ k : Nat) : Int) := by rw [hwk]; exact hor2
                have gT := GC.out (s ||| 2 ^ k) (by rw [length_zs, Odr.length_wlist]; exact hlt)
                rw [zs_getElem] at gT
                have hzb := hcl.out _ hlt
                rw [← Odr.getD_wlist _ _ _ _ hlt] at hzb
                have hTN : s ||| 2 ^ k < N := by rw [HN.out]; exact hlt
                generalize s ||| 2 ^ k = T at *
                have gfT := GF.out T
                have gst := GST.out T
                obtain ⟨z, hzz⟩ : ∃ z, z = (Odr.wlist pre n s k).getD T 0 := ⟨_, rfl⟩
                rw [← hzz] at gT hzb heq
                have hsum : IntKind.i64.wrap ((z : Int) + (q : Int)) = ((z + q : Nat) : Int) := by rw [Int.natCast_add]; exact IntWalk.i64_in _ (by constructor <;> omega)
                have hfin := gst ((z + q : Nat) : Int)
                rw [zs_set, ← heq, Int.natCast_add] at hfin
                have HF := Lib.hid hfin
                have HBF := Lib.hid (hb.setCell (p := ⟨g, T, none⟩) (by have := HG.out; simp; omega) (.int .i64 ((z : Int) + (q : Int))))
                clear hstore hskip hbit hd hdf heq hlt gst hfin hzz HO hwk
                go_wp2_with fail
                refine hH.out.mono ?_
                rintro e w5 ⟨rfl, rfl⟩
                clear hH
                go_wp2_with fail
                go_region
                all_goals go_wp2_with fail
                go_roundw
                case rel => exact ⟨k + 1, by omega, by go_num, HF.out.drew, HBF.out.drew⟩
                case measure => simp [intOf]; omega
              · have hO := Lib.hid (HO.out)
                rw [← hskip.out (.inr (.inl hd))] at hO
                have hz : (bits .andNot .i64 (y : Int) (s : Int) == 0) = false := by rw [hdf]; simp; omega
                clear hskip hstore hbit HO hdf hd
                go_wp2_with fail
                refine hH.out.mono ?_
                rintro e w5 ⟨rfl, rfl⟩
                clear hH
                go_wp2_with fail
                go_roundw
                case rel => exact ⟨k + 1, by omega, by go_num, hO.out, hb⟩
                case measure => simp [intOf]; omega
          · have hO := Lib.hid (HO.out)
            rw [← hskip.out (.inr (.inr (by omega)))] at hO
            clear hskip hstore HO hdf
            go_wp2_with fail
            go_roundw
            case rel => exact ⟨k + 1, by omega, by go_num, hO.out, hb⟩
            case measure => simp [intOf]; omega
        · obtain rfl : k = n := by omega
          rw [Odr.wlist_next] at ho
          go_wp2_with fail
          go_roundw
          case rel => exact ⟨s + 1, by omega, by go_num, ho, hb⟩
          case measure => simp [intOf]; omega
    · obtain rfl : s = N := by omega
      obtain ⟨gb, gl, gc, gf, gst⟩ := ho.lit
      have gs := gc (s - 1) (by rw [length_zs, Odr.length_wlist, ← HN.out]; omega)
      rw [zs_getElem, show (Odr.wlist pre n s 0).getD (s - 1) 0 = Odr.ways pre n (2 ^ n - 1) by rw [HN.out]; exact Odr.wlist_last] at gs
      have e1 : ((s : Int) - 1).toNat = s - 1 := by omega
      have hfin := HB1.out.trans (hb.mono HB1.out.size)
      have HB := Lib.hid hb
      clear gc gf gst ho hs gb gl hb
      obtain ⟨z, hz⟩ : ∃ z, z = Odr.ways pre n (2 ^ n - 1) := ⟨_, rfl⟩
      rw [← hz] at gs
      have HZ := Lib.hid hz
      clear hz
      go_wp2_with fail
      go_ret2
      exact ⟨by rw [← HZ.out]; rfl, hfin⟩

end Go.Proofs.YtpicjikjinkkpaaDoor
