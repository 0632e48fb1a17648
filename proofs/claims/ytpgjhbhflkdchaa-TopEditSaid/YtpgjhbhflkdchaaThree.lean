/- Three edits that put in bytes, each turned over those ahead of it, and applied. Conditions: each contract's own premises. -/
import Derived.Test.YtpgjhbhflkdchaaApply
namespace Go.Proofs.Ytpgjhbhflkdchaa
open Go.RowKit

/-- the one may be turned over the other one -/
def turnOk (a b c o p q : Int) : Prop := edOk a b c ∧ edOk o p q ∧ c ≠ q ∧ a + (if o < a then 1 else 0) ≤ 60

theorem turn_any (a b c o p q : Int) (w : World) (hb : 0 ≤ b) (hp : 0 ≤ p) (hao : a ≠ o) :
    Calls Try.prog 7 #[ev a b c, ev o p q] w fun e w' => (∃ r0 r1 r2 er, e = .returned (.tuple #[ev r0 r1 r2, er]) ∧
      ((turnOk a b c o p q ∧ r0 = a + (if o < a then 1 else 0) ∧ r1 = b ∧ r2 = c ∧ er = .nilIface) ∨ (¬ turnOk a b c o p q ∧ ∃ n, er = ec n))) ∧ Below w.heap.size w w' := by
  have no : ∀ (_ : ¬ turnOk a b c o p q) (_ : Calls Try.prog 7 #[ev a b c, ev o p q] w fun e w' => (∃ n, e = .returned (.tuple #[ev 0 0 0, ec n])) ∧ Below w.heap.size w w'),
      Calls Try.prog 7 #[ev a b c, ev o p q] w fun e w' => (∃ r0 r1 r2 er, e = .returned (.tuple #[ev r0 r1 r2, er]) ∧
      ((turnOk a b c o p q ∧ r0 = a + (if o < a then 1 else 0) ∧ r1 = b ∧ r2 = c ∧ er = .nilIface) ∨ (¬ turnOk a b c o p q ∧ ∃ n, er = ec n))) ∧ Below w.heap.size w w' := fun hn hc => by
    refine hc.mono ?_
    rintro e w' ⟨⟨n, rfl⟩, hb⟩
    exact ⟨⟨0, 0, 0, ec n, rfl, .inr ⟨hn, n, rfl⟩⟩, hb⟩
  by_cases h1 : edOk a b c
  · by_cases h2 : edOk o p q
    · by_cases h3 : c = q
      · exact no (fun h => h.2.2.1 h3) (turn_no3 a b c o p q w h1 h2 h3)
      · by_cases h4 : a + (if o < a then 1 else 0) ≤ 60
        · refine (turn_ok a b c o p q w h1 h2 hb hp h3 hao h4).mono ?_
          rintro e w' ⟨rfl, hb⟩
          exact ⟨⟨_, _, _, _, rfl, .inl ⟨⟨h1, h2, h3, h4⟩, rfl, rfl, rfl, rfl⟩⟩, hb⟩
        · refine no (fun h => h4 h.2.2.2) ?_
          have h5 : o < a := by
            by_cases h5 : o < a
            · exact h5
            · rw [if_neg h5] at h4
              have := h1.1.2
              omega
          rw [if_pos h5] at h4
          exact turn_no4 a b c o p q w h1 h2 hb hp h3 h5 (by omega)
    · exact no (fun h => h2 h.2.1) (turn_no2 a b c o p q w h1 h2)
  · exact no (fun h => h1 h.1) (turn_no1 a b c o p q w h1)

/-- a place, turned over another one -/
def shz (e o : Int) : Int := e + if o < e then 1 else 0
def byteOf (b : Int) : UInt8 := UInt8.ofNat b.toNat
/-- all three edits can be turned and applied -/
def good3 (s : ByteArray) (a0 a1 a2 b0 b1 b2 c0 c1 c2 : Int) : Prop := turnOk b0 b1 b2 a0 a1 a2 ∧ turnOk c0 c1 c2 a0 a1 a2 ∧ turnOk (shz c0 a0) c1 c2 (shz b0 a0) b1 b2 ∧ a0 ≤ s.size ∧ shz b0 a0 ≤ s.size + 1 ∧ shz (shz c0 a0) (shz b0 a0) ≤ s.size + 2
def ThreePost (s : ByteArray) (a0 a1 a2 b0 b1 b2 c0 c1 c2 : Int) (e : Ending) : Prop := ∃ t ok, e = .returned (.tuple #[.string t, .bool ok]) ∧
  ((good3 s a0 a1 a2 b0 b1 b2 c0 c1 c2 ∧ ok = true ∧ t = Edm.ins (Edm.ins (Edm.ins s a0.toNat (byteOf a1)) (shz b0 a0).toNat (byteOf b1)) (shz (shz c0 a0) (shz b0 a0)).toNat (byteOf c1)) ∨
   (¬ good3 s a0 a1 a2 b0 b1 b2 c0 c1 c2 ∧ ok = false ∧ t = ⟨#[]⟩))
theorem ThreePost.no {s : ByteArray} {a0 a1 a2 b0 b1 b2 c0 c1 c2 : Int} (h : ¬ good3 s a0 a1 a2 b0 b1 b2 c0 c1 c2) : ThreePost s a0 a1 a2 b0 b1 b2 c0 c1 c2 (.returned (.tuple #[.string ⟨#[]⟩, .bool false])) :=
  ⟨_, _, rfl, .inr ⟨h, rfl, rfl⟩⟩

/-- three edits lie in a block -/
def Nine (w : World) (B : Nat) (a0 a1 a2 b0 b1 b2 c0 c1 c2 : Int) : Prop :=
  (w.cell? ⟨B, 0, none⟩ = some (.int .i64 a0) ∧ w.cell? ⟨B, 1, none⟩ = some (.int .i64 a1) ∧ w.cell? ⟨B, 2, none⟩ = some (.int .i64 a2)) ∧
  (w.cell? ⟨B, 3, none⟩ = some (.int .i64 b0) ∧ w.cell? ⟨B, 4, none⟩ = some (.int .i64 b1) ∧ w.cell? ⟨B, 5, none⟩ = some (.int .i64 b2)) ∧
  (w.cell? ⟨B, 6, none⟩ = some (.int .i64 c0) ∧ w.cell? ⟨B, 7, none⟩ = some (.int .i64 c1) ∧ w.cell? ⟨B, 8, none⟩ = some (.int .i64 c2))
theorem Nine.below {w w' : World} {B K : Nat} {a0 a1 a2 b0 b1 b2 c0 c1 c2 : Int} (h : Nine w B a0 a1 a2 b0 b1 b2 c0 c1 c2) (g : Below K w w') (hB : B < K) : Nine w' B a0 a1 a2 b0 b1 b2 c0 c1 c2 := by
  obtain ⟨⟨h1, h2, h3⟩, ⟨h4, h5, h6⟩, h7, h8, h9⟩ := h
  have k := fun n => g.cell (p := ⟨B, n, none⟩) hB
  exact ⟨⟨(k 0).trans h1, (k 1).trans h2, (k 2).trans h3⟩, ⟨(k 3).trans h4, (k 4).trans h5, (k 5).trans h6⟩, (k 6).trans h7, (k 7).trans h8, (k 8).trans h9⟩

set_option maxRecDepth 20000 in
set_option maxHeartbeats 8000000 in
theorem three_calls (s : ByteArray) (a0 a1 a2 b0 b1 b2 c0 c1 c2 : Int) (w : World) (hs : s.size ≤ 50) (ha : 0 ≤ a1) (hb : 0 ≤ b1) (hc : 0 ≤ c1) (hab : a0 ≠ b0) (hac : a0 ≠ c0) (hbc : b0 ≠ c0) :
    Calls Try.prog 5 #[.string s, ev a0 a1 a2, ev b0 b1 b2, ev c0 c1 c2] w fun e w' => ThreePost s a0 a1 a2 b0 b1 b2 c0 c1 c2 e ∧ Below w.heap.size w w' := by
  go_enter Try.func5, Try.ntmps5
  go_wp2_with fail
  obtain ⟨wa, hwa, sa, ba, ka⟩ := box3 w a0 a1 a2
  obtain ⟨wb, hwb, sb, bb, kb⟩ := box3 wa b0 b1 b2
  obtain ⟨wc, hwc, sc, bc, kc⟩ := box3 wb c0 c1 c2
  rw [hwa, hwb, hwc]
  obtain ⟨B, hB⟩ : ∃ B, B = w.heap.size := ⟨_, rfl⟩
  rw [← hB] at sa ka ⊢
  rw [sa] at sb kb
  rw [sb] at sc kc
  refine (turn_any b0 b1 b2 a0 a1 a2 wc hb ha hab.symm).mono ?_
  rintro e w1 ⟨⟨r0, r1, r2, er, rfl, hd⟩, hb1⟩
  have bab := bb.trans (bc.mono (by omega))
  have bw : Below B w wc := by rw [hB]; exact ba.trans (bab.mono (by omega))
  have ka' : At3 wc B a0 a1 a2 := At3.below ⟨⟨ka.1, ka.2.1, ka.2.2.1⟩, ka.2.2.2⟩ bab (by omega)
  have kb' : At3 wc (B + 1) b0 b1 b2 := At3.below ⟨⟨kb.1, kb.2.1, kb.2.2.1⟩, kb.2.2.2⟩ bc (by omega)
  have kc' : At3 wc (B + 1 + 1) c0 c1 c2 := ⟨⟨kc.1, kc.2.1, kc.2.2.1⟩, kc.2.2.2⟩
  obtain ⟨⟨x1, x2, x3⟩, x4, x5, x6⟩ := ka'.below hb1 (by omega)
  obtain ⟨⟨z1, z2, z3⟩, z4, z5, z6⟩ := kc'.below hb1 (by omega)
  have bw1 : Below B w w1 := bw.trans (hb1.mono (by omega))
  have s1 := hb1.size
  rw [sc] at s1
  have ha3 : At3 w1 B a0 a1 a2 := ⟨⟨x1, x2, x3⟩, x4, x5, x6⟩
  have hc3 : At3 w1 (B + 1 + 1) c0 c1 c2 := ⟨⟨z1, z2, z3⟩, z4, z5, z6⟩
  obtain ⟨wp, hwp, sp, bp, kp⟩ := box3 w1 r0 r1 r2
  have hp3 : At3 wp w1.heap.size r0 r1 r2 := ⟨⟨kp.1, kp.2.1, kp.2.2.1⟩, kp.2.2.2⟩
  have ha4 : At3 wp B a0 a1 a2 := ha3.below bp (by omega)
  have hc4 : At3 wp (B + 1 + 1) c0 c1 c2 := hc3.below bp (by omega)
  have bwp : Below B w wp := bw1.trans (bp.mono (by omega))
  clear x1 x2 x3 x4 x5 x6 z1 z2 z3 z4 z5 z6 ha3 hc3 bp kp
  have HP := Lib.hid hp3
  have HSP := Lib.hid sp
  have HB := Lib.hid hB
  have HWP := Lib.hid hwp
  have S1 := Lib.hid s1
  have HD := Lib.hid hd
  have HA4 := Lib.hid ha4
  have HC4 := Lib.hid hc4
  obtain ⟨⟨x1, x2, x3⟩, x4, x5, x6⟩ := ha4
  obtain ⟨⟨z1, z2, z3⟩, z4, z5, z6⟩ := hc4
  rw [← hwp] at x1 x2 x3 z1 z2 z3
  clear ka kb kc ka' kb' kc' hwa hwb hwc hB sa sb sc ba bb bc bab s1 hb1 bw hd sp hwp hp3 x4 x5 x6 z4 z5 z6
  go_wp2_with fail
  rw [HWP.out]
  clear x1 x2 x3 z1 z2 z3
  refine (turn_any c0 c1 c2 a0 a1 a2 wp hc ha hac.symm).mono ?_
  rintro e w2 ⟨⟨q0, q1, q2, eq, rfl, hd2⟩, hb2⟩
  have s1 := S1.out
  have sp := HSP.out
  have s2 := hb2.size
  have hp3 := HP.out.below hb2 (by omega)
  have ha3 := HA4.out.below hb2 (by omega)
  obtain ⟨wq, hwq, sq, bq, kq⟩ := box3 w2 q0 q1 q2
  have hq4 : At3 wq w2.heap.size q0 q1 q2 := ⟨⟨kq.1, kq.2.1, kq.2.2.1⟩, kq.2.2.2⟩
  have hp4 := hp3.below bq (by omega)
  have ha4 := ha3.below bq (by omega)
  have bwq : Below B w wq := (bwp.trans (hb2.mono (by omega))).trans (bq.mono (by omega))
  obtain ⟨D, hD⟩ : ∃ D, D = w1.heap.size := ⟨_, rfl⟩
  rw [← hD] at s1 sp hp3 hp4 ⊢
  have HDD := Lib.hid hD
  have HQ := Lib.hid hq4
  have HP4 := Lib.hid hp4
  have HA := Lib.hid ha4
  have HS2 := Lib.hid s2
  have HSQ := Lib.hid sq
  have HD2 := Lib.hid hd2
  clear HA4 HC4 HP hp3 ha3 kq bq bwp HWP hD hq4 hp4 ha4 s2 sq hb2 hd2
  rcases HD.out with ⟨ht, h0, h1, h2, h3⟩ | ⟨hn, n, h3⟩
  · subst h1 h2 h3
    have HR0 := Lib.hid h0
    have HT := Lib.hid ht
    clear h0 HD ht
    rcases HD2.out with ⟨ht2, h0, h1, h2, h3⟩ | ⟨hn, n, h3⟩
    · subst h1 h2 h3
      have HQ0 := Lib.hid h0
      have HT2 := Lib.hid ht2
      clear h0 HD2 ht2
      obtain ⟨⟨x1, x2, x3⟩, x4, x5, x6⟩ := HP4.out
      obtain ⟨⟨z1, z2, z3⟩, z4, z5, z6⟩ := HQ.out
      clear x4 x5 x6 z4 z5 z6
      go_wp2_with fail
      clear x1 x2 x3 z1 z2 z3
      have h3 : q0 ≠ r0 := by
        have h4 := HR0.out
        have h5 := HQ0.out
        split at h4 <;> split at h5 <;> omega
      have HWQ := Lib.hid hwq
      clear hwq
      refine (turn_any q0 q1 q2 r0 r1 r2 wq hc hb h3).mono ?_
      rintro e w3 ⟨⟨t0, t1, t2, et, rfl, hd3⟩, hb3⟩
      have s1 := S1.out
      have sp := HSP.out
      have s2 := HS2.out
      have sq := HSQ.out
      have s3 := hb3.size
      have hp5 := HP4.out.below hb3 (by omega)
      have ha5 := HA.out.below hb3 (by omega)
      obtain ⟨wt, hwt, st, bt, kt⟩ := box3 w3 t0 t1 t2
      have ht6 : At3 wt w3.heap.size t0 t1 t2 := ⟨⟨kt.1, kt.2.1, kt.2.2.1⟩, kt.2.2.2⟩
      have hp6 := hp5.below bt (by omega)
      have ha6 := ha5.below bt (by omega)
      have bwt : Below B w wt := (bwq.trans (hb3.mono (by omega))).trans (bt.mono (by omega))
      have HST := Lib.hid (show B + 3 ≤ w3.heap.size by omega)
      clear HP4 HQ HA hp5 ha5 bt kt bwq hb3 s1 sp s2 sq s3 h3
      rcases hd3 with ⟨ht3, h0, h1, h2, h3⟩ | ⟨hn, n, h3⟩
      · subst h1 h2 h3
        have HT0 := Lib.hid h0
        have HT3 := Lib.hid ht3
        clear h0 ht3
        obtain ⟨⟨x1, x2, x3⟩, _⟩ := ha6
        obtain ⟨⟨y1, y2, y3⟩, _⟩ := hp6
        obtain ⟨⟨z1, z2, z3⟩, _⟩ := ht6
        go_wp2_with fail
        clear x1 x2 x3 y1 y2 y3 z1 z2 z3
        obtain ⟨wl, hwl, cl⟩ : ∃ wl, wt.alloc (.cells #[.int .i64 a0, .int .i64 a1, .int .i64 a2, .int .i64 r0, .int .i64 r1, .int .i64 r2, .int .i64 t0, .int .i64 t1, .int .i64 t2] 23) = wl ∧ Nine wl (w3.heap.size + 1) a0 a1 a2 r0 r1 r2 t0 t1 t2 := ⟨_, rfl, by rw [← st]; unfold Nine; simp⟩
        have hsl : wl.heap.size = w3.heap.size + 1 + 1 := by rw [← hwl]; simp [st]
        have bwl : Below B w wl := by rw [← hwl]; exact bwt.alloc (by have := HST.out; omega) _
        rw [hwl]
        have HSL := Lib.hid hsl
        have CL := Lib.hid cl
        have HT0' := Lib.hid (show t0 = shz q0 r0 from HT0.out)
        have E0 := Lib.hid HT.out.2.1
        have E1 := Lib.hid (show edOk r0 r1 r2 from ⟨⟨by have := HT.out.1.1; have h4 := HR0.out; split at h4 <;> omega, by rw [HR0.out]; exact HT.out.2.2.2⟩, HT.out.1.2⟩)
        have E2 := Lib.hid (show edOk t0 t1 t2 from ⟨⟨by have := HT3.out.1.1; have h4 := HT0.out; split at h4 <;> omega, by rw [HT0.out]; exact HT3.out.2.2.2⟩, HT3.out.1.2⟩)
        clear hwl hsl cl bwt hwt st
        go_loopw [0, 17] (fun sv i wr => Below B w wr ∧ Below wl.heap.size wl wr ∧ ((i = .int .i64 0 ∧ sv = .string s) ∨ (i = .int .i64 1 ∧ sv = .string (Edm.ins s a0.toNat (byteOf a1)) ∧ a0 ≤ s.size) ∨ (i = .int .i64 2 ∧ sv = .string (Edm.ins (Edm.ins s a0.toNat (byteOf a1)) r0.toNat (byteOf r1)) ∧ a0 ≤ s.size ∧ r0 ≤ s.size + 1) ∨ (i = .int .i64 3 ∧ sv = .string (Edm.ins (Edm.ins (Edm.ins s a0.toNat (byteOf a1)) r0.toNat (byteOf r1)) t0.toNat (byteOf t1)) ∧ a0 ≤ s.size ∧ r0 ≤ s.size + 1 ∧ t0 ≤ s.size + 2))) (fun _ i _ => 3 - (intOf i).toNat)
        case atStart => exact ⟨bwl, Below.refl _ _, .inl ⟨rfl, rfl⟩⟩
        case round =>
          obtain ⟨hbw, hbl, hcase⟩ := hrel
          have cl2 := CL.out.below hbl (by have := HSL.out; omega)
          have HBW := Lib.hid hbw
          have HBL := Lib.hid hbl
          have hle := hbl.size
          have hsl := HSL.out
          have hst := HST.out
          clear hbw hbl
          obtain ⟨⟨u1, u2, u3⟩, ⟨u4, u5, u6⟩, u7, u8, u9⟩ := cl2
          rcases hcase with ⟨rfl, rfl⟩ | ⟨rfl, rfl, k0⟩ | ⟨rfl, rfl, k0, k1⟩ | ⟨rfl, rfl, k0, k1, k2⟩
          · by_cases hk : a0 ≤ s.size
            · have HA := fun w => Lib.hid (apply_ok s a0 a1 a2 w E0.out ha (by have := hs; omega) hk)
              go_wp2_with fail
              refine (HA _).out.mono ?_
              rintro e w5 ⟨rfl, hb5⟩
              have hb6 : Below B w w5 := HBW.out.trans (hb5.mono (by omega))
              have hb7 : Below wl.heap.size wl w5 := HBL.out.trans (hb5.mono hle)
              clear hb5 HA
              go_wp2_with fail
              go_roundw
              case rel => exact ⟨hb6, hb7, .inr (.inl ⟨rfl, rfl, hk⟩)⟩
              case measure => simp [intOf]
            · have HA := fun w => Lib.hid (apply_no s a0 a1 a2 w E0.out ha (by have := hs; omega) (by omega))
              have HG := Lib.hid (show ¬ good3 s a0 a1 a2 b0 r1 r2 c0 t1 t2 from fun h => hk h.2.2.2.1)
              go_wp2_with fail
              refine (HA _).out.mono ?_
              rintro e w5 ⟨rfl, hb5⟩
              have hb6 : Below B w w5 := HBW.out.trans (hb5.mono (by omega))
              clear hb5 HA
              go_wp2_with fail
              go_ret2
              exact ⟨ThreePost.no HG.out, by rw [← HB.out]; exact hb6⟩
          · by_cases hk : r0 ≤ s.size + 1
            · have HA := fun w => Lib.hid (apply_ok (Edm.ins s a0.toNat (byteOf a1)) r0 r1 r2 w E1.out hb (by simp only [Edm.ins_size]; omega) (by simp only [Edm.ins_size]; omega))
              go_wp2_with fail
              refine (HA _).out.mono ?_
              rintro e w5 ⟨rfl, hb5⟩
              have hb6 : Below B w w5 := HBW.out.trans (hb5.mono (by omega))
              have hb7 : Below wl.heap.size wl w5 := HBL.out.trans (hb5.mono hle)
              clear hb5 HA
              go_wp2_with fail
              go_roundw
              case rel => exact ⟨hb6, hb7, .inr (.inr (.inl ⟨rfl, rfl, k0, hk⟩))⟩
              case measure => simp [intOf]
            · have HA := fun w => Lib.hid (apply_no (Edm.ins s a0.toNat (byteOf a1)) r0 r1 r2 w E1.out hb (by simp only [Edm.ins_size]; omega) (by simp only [Edm.ins_size]; omega))
              have HG := Lib.hid (show ¬ good3 s a0 a1 a2 b0 r1 r2 c0 t1 t2 from fun h => hk (by have := h.2.2.2.2.1; unfold shz at this; rwa [← HR0.out] at this))
              go_wp2_with fail
              refine (HA _).out.mono ?_
              rintro e w5 ⟨rfl, hb5⟩
              have hb6 : Below B w w5 := HBW.out.trans (hb5.mono (by omega))
              clear hb5 HA
              go_wp2_with fail
              go_ret2
              exact ⟨ThreePost.no HG.out, by rw [← HB.out]; exact hb6⟩
          · by_cases hk : t0 ≤ s.size + 2
            · have HA := fun w => Lib.hid (apply_ok (Edm.ins (Edm.ins s a0.toNat (byteOf a1)) r0.toNat (byteOf r1)) t0 t1 t2 w E2.out hc (by simp only [Edm.ins_size]; omega) (by simp only [Edm.ins_size]; omega))
              go_wp2_with fail
              refine (HA _).out.mono ?_
              rintro e w5 ⟨rfl, hb5⟩
              have hb6 : Below B w w5 := HBW.out.trans (hb5.mono (by omega))
              have hb7 : Below wl.heap.size wl w5 := HBL.out.trans (hb5.mono hle)
              clear hb5 HA
              go_wp2_with fail
              go_roundw
              case rel => exact ⟨hb6, hb7, .inr (.inr (.inr ⟨rfl, rfl, k0, k1, hk⟩))⟩
              case measure => simp [intOf]
            · have HA := fun w => Lib.hid (apply_no (Edm.ins (Edm.ins s a0.toNat (byteOf a1)) r0.toNat (byteOf r1)) t0 t1 t2 w E2.out hc (by simp only [Edm.ins_size]; omega) (by simp only [Edm.ins_size]; omega))
              have HG := Lib.hid (show ¬ good3 s a0 a1 a2 b0 r1 r2 c0 t1 t2 from fun h => hk (by have := h.2.2.2.2.2; have h4 := HT0'.out; rw [HR0.out, HQ0.out] at h4; rw [h4]; exact this))
              go_wp2_with fail
              refine (HA _).out.mono ?_
              rintro e w5 ⟨rfl, hb5⟩
              have hb6 : Below B w w5 := HBW.out.trans (hb5.mono (by omega))
              clear hb5 HA
              go_wp2_with fail
              go_ret2
              exact ⟨ThreePost.no HG.out, by rw [← HB.out]; exact hb6⟩
          · have HG := Lib.hid (show good3 s a0 a1 a2 b0 r1 r2 c0 t1 t2 from ⟨HT.out, HT2.out, by unfold shz; rw [← HR0.out, ← HQ0.out]; exact HT3.out, k0, by unfold shz; rw [← HR0.out]; exact k1, by have h4 := HT0'.out; rw [HR0.out, HQ0.out] at h4; unfold shz at h4 ⊢; rw [← h4]; exact k2⟩)
            go_wp2_with fail
            go_ret2
            refine ⟨⟨_, _, rfl, .inl ⟨HG.out, rfl, ?_⟩⟩, by rw [← HB.out]; exact HBW.out⟩
            have h4 := HT0'.out
            rw [h4, HR0.out, HQ0.out]
            rfl
      · subst h3
        have hg : ¬ good3 s a0 a1 a2 b0 r1 r2 c0 q1 q2 := fun h => hn (by have := h.2.2.1; unfold shz at this; rwa [← HR0.out, ← HQ0.out] at this)
        clear hn
        have HG := Lib.hid hg
        clear hg hp6 ha6 ht6
        go_wp2_with fail
        go_ret2
        exact ⟨ThreePost.no HG.out, by rw [← HB.out]; exact bwt⟩
    · subst h3
      have hg : ¬ good3 s a0 a1 a2 b0 r1 r2 c0 c1 c2 := fun h => hn h.2.1
      clear HD2 hn
      have HG := Lib.hid hg
      clear hg
      go_wp2_with fail
      go_ret2
      exact ⟨ThreePost.no HG.out, by rw [← HB.out]; exact bwq⟩
  · subst h3
    have hg : ¬ good3 s a0 a1 a2 b0 b1 b2 c0 c1 c2 := fun h => hn h.1
    clear HD HD2 hn
    have HG := Lib.hid hg
    clear hg
    go_wp2_with fail
    go_ret2
    exact ⟨ThreePost.no HG.out, by rw [← HB.out]; exact bwq⟩
end Go.Proofs.Ytpgjhbhflkdchaa
