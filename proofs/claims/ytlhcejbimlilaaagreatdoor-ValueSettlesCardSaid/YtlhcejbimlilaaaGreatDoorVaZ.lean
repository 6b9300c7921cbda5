/- The program's own texts of moments. -/
import Derived.Test.YtlhcejbimlilaaaGreatDoorVaV
import Derived.Test.YtlhcejbimlilaaaGreatDoorVaX
import Derived.Test.YtlhcejbimlilaaaGreatDoorVaY
set_option linter.unusedVariables false
set_option linter.unusedSimpArgs false
namespace Go.Tk
open Go Go.RowKit Go.Proofs.YtlhcejbimlilaaaGreatDoor
structure MtS (m : Mt) (L : Nat) : Prop where
  s1 : -33000000000000000 ≤ m.sec
  s2 : m.sec ≤ 33000000000000000
  z1 : -900 ≤ m.zone
  z2 : m.zone ≤ 900
  pl : m.part.length ≤ L
  sl : m.sp.length ≤ L + 1
theorem rdZ_bd {z : List UInt8} {x : Bool × Int} (h : rdZ z = some x) : -900 ≤ x.2 ∧ x.2 ≤ 900 := by
  cases z with
  | nil =>
    obtain rfl := Option.some.inj (show some (false, (0 : Int)) = some x from h)
    simp
  | cons c t =>
    rw [rdZ_eq] at h
    split at h
    · obtain rfl := Option.some.inj h; simp
    split at h
    · cases h
    unfold rdZ2 at h
    cases h1 : twoP t [58] with
    | none => rw [h1] at h; cases h
    | some q =>
      obtain ⟨hh, r⟩ := q
      rw [h1] at h
      simp only at h
      unfold rdZ3 at h
      cases h2 : twoP r [] with
      | none => rw [h2] at h; cases h
      | some q =>
        obtain ⟨m, e⟩ := q
        rw [h2] at h
        simp only at h
        have b1 := twoP_bd h1
        have b2 := twoP_bd h2
        split at h
        · cases h
        · rename_i hn
          obtain rfl := Option.some.inj h
          have n1 : ¬ 59 < m := fun g => hn (.inr (.inl g))
          have n2 : ¬ 14 < hh := fun g => hn (.inr (.inr (.inl g)))
          dsimp only
          split <;> omega
theorem inP_bd {sec : Int} {p z : List UInt8} {m : Mt} {L : Nat} (h : inP sec p z = some m) (h1 : -33000000000000000 ≤ sec) (h2 : sec ≤ 33000000000000000) (hp : p.length ≤ L) (hz : z.length ≤ L) : MtS m L := by
  unfold inP at h
  cases ho : rdZ z with
  | none => rw [ho] at h; cases h
  | some x =>
    rw [ho] at h
    obtain rfl := Option.some.inj h
    have hb := rdZ_bd ho
    refine ⟨h1, h2, hb.1, hb.2, hp, ?_⟩
    dsimp only
    split
    · simp
    · omega
theorem rdDay_bd {s : List UInt8} {m : Mt} (h : rdDay s = some m) : MtS m s.length := by
  unfold rdDay at h
  cases ho : rdD s with
  | none => rw [ho] at h; cases h
  | some q =>
    obtain ⟨n, z⟩ := q
    rw [ho] at h
    have hb := rdD_bd ho
    exact inP_bd h (by omega) (by omega) (by simp) hb.2
theorem rdClk_bd {s : List UInt8} {m : Mt} (h : rdClk s = some m) : MtS m s.length := by
  unfold rdClk at h
  cases ho : rdT s with
  | none => rw [ho] at h; cases h
  | some q =>
    obtain ⟨c, p, z⟩ := q
    rw [ho] at h
    have hb := rdT_bd ho
    exact inP_bd h (by omega) (by omega) hb.2.1 hb.2.2
theorem rdDT_bd {s : List UInt8} {m : Mt} (h : rdDT s = some m) : MtS m s.length := by
  unfold rdDT at h
  cases ho : rdD s with
  | none => rw [ho] at h; cases h
  | some q =>
    obtain ⟨n, r⟩ := q
    rw [ho] at h
    have hb := rdD_bd ho
    simp only at h
    split at h
    · cases hq : rdT (r.drop 1) with
      | none => rw [hq] at h; cases h
      | some x =>
        obtain ⟨c, p, z⟩ := x
        rw [hq] at h
        have hc := rdT_bd hq
        rw [List.length_drop] at hc
        exact inP_bd h (by omega) (by omega) (by omega) (by omega)
    · cases h
theorem MtS.b {m : Mt} {L : Nat} (h : MtS m L) : MtB m := ⟨by have := h.s1; omega, by have := h.s2; omega, by have := h.z1; omega, by have := h.z2; omega⟩
def DtP2 (n : Int) (tail : List UInt8) (w : World) (e : Ending) (w' : World) : Prop := ∃ y m d : Int, e = .returned (.tuple #[.string ⟨(dtP y m d ++ tail).toArray⟩, .bool (decide ((if y < 0 then -y else y) ≤ 999999999))]) ∧ IsDate n y m d ∧ Below w.heap.size w w'
end Go.Tk
namespace Go.Proofs.YtlhcejbimlilaaaGreatDoor
open Go.RowKit Go.Tk
set_option maxHeartbeats 2000000 in
theorem ownTime_calls (s : ByteArray) (m : Mt) (w : World) (hpw : Pow w) (hs : s.size ≤ 65536) (hm : rdClk s.data.toList = some m) :
    Calls Tryz.prog 61 #[.string s] w fun e w' => e = .returned (.tuple #[.string ⟨(ckP m.sec m.part ++ m.sp).toArray⟩, .bool true]) ∧ Below w.heap.size w w' := by
  have hb := rdClk_bd hm
  rw [← Lib.size_eq] at hb
  have hr : ∀ w, Calls Tryz.prog 38 #[.string s] w fun e w' => e = .returned (.tuple #[m.val, .bool true]) ∧ Below w.heap.size w w' := fun w => by
    refine (readClock_calls s w (by omega)).mono fun e w' h => ?_
    obtain ⟨m', he, hmo, hbw⟩ := h
    obtain rfl := hmo m hm
    rw [hm] at he
    exact ⟨he, hbw⟩
  have hc := fun w h => clock_calls m w h ⟨by have := hb.s1; omega, by have := hb.s2; omega⟩ (by have := hb.pl; omega)
  have hsl := hb.sl
  obtain ⟨T, hT⟩ : ∃ T : ByteArray, T = ⟨(ckP m.sec m.part).toArray⟩ := ⟨_, rfl⟩
  have hfin : (⟨(ckP m.sec m.part ++ m.sp).toArray⟩ : ByteArray) = T ++ ⟨m.sp.toArray⟩ := by rw [hT, ba_app]
  have hTs : T.size ≤ 65700 := by
    rw [hT, sz_mk]
    unfold ckP
    have l1 := pdP_len (m.sec % 86400 / 3600) 2 (by omega) (by omega) (by omega)
    have l2 := pdP_len (m.sec % 86400 / 60 % 60) 2 (by omega) (by omega) (by omega)
    have l3 := pdP_len (m.sec % 86400 % 60) 2 (by omega) (by omega) (by omega)
    have hpl := hb.pl
    simp only [List.length_append, List.length_cons, List.length_nil]
    split
    · simp only [List.length_nil]; omega
    · simp only [List.length_cons]; omega
  rw [hfin]
  rw [← hT] at hc
  obtain ⟨ms, mp, mz, mn, mq⟩ := m
  unfold Mt.val at hr hc
  dsimp only at hr hc hsl ⊢
  obtain ⟨Q, hQ⟩ : ∃ Q : ByteArray, Q = ⟨mq.toArray⟩ := ⟨_, rfl⟩
  have hQs : Q.size ≤ 65537 := by rw [hQ, sz_mk]; omega
  rw [← hQ] at hr hc ⊢
  have HR := Lib.hid hr
  have HC := Lib.hid hc
  have HPW := Lib.hid hpw
  clear hr hc hpw hm hb hT hfin hQ hsl
  go_enter Tryz.func61, Tryz.ntmps61
  go_upto_region 2 with (go_at_call 38; (with_reducible refine (HR.out _).mono ?_); rintro e w1 ⟨rfl, hb1⟩)
  obtain ⟨r1, hb⟩ := box1 w1 (.cells #[.int .i64 ms, .string ⟨mp.toArray⟩, .bool mz, .int .i64 mn, .string Q] 76)
  generalize World.alloc w1 _ = w2 at r1 hb ⊢
  have hb2 := hb1.trans (hb.mono hb1.size)
  have hp2 := HPW.out.below hb2
  have q1 := Lw.row r1
  have x0 := fun x => (row_cell (q1 x) 0)
  have x1 := fun x => (row_cell (q1 x) 1)
  have x2 := fun x => (row_cell (q1 x) 2)
  have x3 := fun x => (row_cell (q1 x) 3)
  have x4 := fun x => (row_cell (q1 x) 4)
  simp at x0 x1 x2 x3 x4
  have hc2 : ∀ x : Lw w2, Calls Tryz.prog 104 #[.agg #[.int .i64 ms, .string ⟨mp.toArray⟩, .bool mz, .int .i64 mn, .string Q]] x.to fun e w' => e = .returned (.string T) ∧ Below x.to.heap.size x.to w' := fun x => HC.out x.to (hp2.below x.bel)
  have HC2 := Lib.hid hc2
  clear q1 r1 hb1 hb hp2 hc2
  refine wp_region_lw (by kernel_rfl) (by kernel_rfl) ?_
  repeat (go_big_quiet_step (first | exact rfl | (go_at_call 104; with_reducible exact lw_call (HC2.out _))))
  refine wpQuiet_nil ?_
  rintro ⟨w3, hb3⟩
  dsimp only
  have hb4 := hb2.trans (hb3.mono hb2.size)
  clear x0 x1 x2 x3 x4 hb2 hb3
  go_wp2_with fail
  go_ret2
  exact ⟨rfl, hb4⟩
theorem dtP_len (y m d : Int) (h1 : -1100000000 ≤ y) (h2 : y ≤ 1100000000) (h3 : 1 ≤ m) (h4 : m ≤ 12) (h5 : 1 ≤ d) (h6 : d ≤ 31) : (dtP y m d).length ≤ 100 := by
  unfold dtP
  have hYb : -1 < (if y < 0 then -y else y) ∧ (if y < 0 then -y else y) ≤ 1100000000 := by split <;> omega
  obtain ⟨Y, hY⟩ : ∃ Y : Int, Y = if y < 0 then -y else y := ⟨_, rfl⟩
  rw [← hY] at hYb ⊢
  have l1 := pdP_len Y 4 (by omega) (by omega) (by omega)
  have l2 := pdP_len m 2 (by omega) (by omega) (by omega)
  have l3 := pdP_len d 2 (by omega) (by omega) (by omega)
  simp only [List.length_append, List.length_cons, List.length_nil]
  split
  · simp only [List.length_cons, List.length_nil]; omega
  · simp only [List.length_nil]; omega
theorem ckP_len (sec : Int) (part : List UInt8) : (ckP sec part).length ≤ 70 + part.length := by
  unfold ckP
  have l1 := pdP_len (sec % 86400 / 3600) 2 (by omega) (by omega) (by omega)
  have l2 := pdP_len (sec % 86400 / 60 % 60) 2 (by omega) (by omega) (by omega)
  have l3 := pdP_len (sec % 86400 % 60) 2 (by omega) (by omega) (by omega)
  simp only [List.length_append, List.length_cons, List.length_nil]
  split
  · simp only [List.length_nil]; omega
  · simp only [List.length_cons]; omega
set_option maxHeartbeats 2000000 in
theorem ownDate_calls (s : ByteArray) (m : Mt) (w : World) (hpw : Pow w) (hs : s.size ≤ 65536) (hm : rdDay s.data.toList = some m) :
    Calls Tryz.prog 59 #[.string s] w (DtP2 (m.sec / 86400) m.sp w) := by
  have hb := rdDay_bd hm
  rw [← Lib.size_eq] at hb
  have hr : ∀ w, Calls Tryz.prog 37 #[.string s] w fun e w' => e = .returned (.tuple #[m.val, .bool true]) ∧ Below w.heap.size w w' := fun w => by
    refine (readDay_calls s w (by omega)).mono fun e w' h => ?_
    obtain ⟨m', he, hmo, hbw⟩ := h
    obtain rfl := hmo m hm
    rw [hm] at he
    exact ⟨he, hbw⟩
  have hd := fun w h => date_calls m w h ⟨by have := hb.s1; omega, by have := hb.s2; omega⟩
  have hnb : -400000000000 ≤ m.sec / 86400 ∧ m.sec / 86400 ≤ 400000000000 := by have := hb.s1; have := hb.s2; omega
  have hsl := hb.sl
  obtain ⟨n, hn⟩ : ∃ n, n = m.sec / 86400 := ⟨_, rfl⟩
  rw [← hn] at hd hnb ⊢
  obtain ⟨ms, mp, mz, mn, mq⟩ := m
  unfold Mt.val at hr hd
  dsimp only at hr hd hsl ⊢
  obtain ⟨Q, hQ⟩ : ∃ Q : ByteArray, Q = ⟨mq.toArray⟩ := ⟨_, rfl⟩
  have hQs : Q.size ≤ 65537 := by rw [hQ, sz_mk]; omega
  rw [← hQ] at hr hd
  have hQd : Q.data.toList = mq := by rw [hQ]
  have HR := Lib.hid hr
  have HD := Lib.hid hd
  have HPW := Lib.hid hpw
  have HNB := Lib.hid hnb
  have HQ := Lib.hid hQd
  clear hr hd hpw hm hb hQ hsl hn hnb hQd
  go_enter Tryz.func59, Tryz.ntmps59
  go_upto_region 2 with (go_at_call 37; (with_reducible refine (HR.out _).mono ?_); rintro e w1 ⟨rfl, hb1⟩)
  obtain ⟨r1, hb⟩ := box1 w1 (.cells #[.int .i64 ms, .string ⟨mp.toArray⟩, .bool mz, .int .i64 mn, .string Q] 76)
  generalize World.alloc w1 _ = w2 at r1 hb ⊢
  have hb2 := hb1.trans (hb.mono hb1.size)
  have HP2 := Lib.hid (HPW.out.below hb2)
  have HB2 := Lib.hid hb2
  have x0 := row_cell r1 0
  have x1 := row_cell r1 1
  have x2 := row_cell r1 2
  have x3 := row_cell r1 3
  have x4 := row_cell r1 4
  simp at x0 x1 x2 x3 x4
  have hz := lt_of_block r1
  clear r1 hb1 hb hb2
  go_wp2_with (go_at_call 103; (with_reducible refine (HD.out _ HP2.out).mono ?_); rintro e w3 ⟨y, mo, d, rfl, hid, hb3⟩; (have HID := Lib.hid hid); clear hid; (have x4' := (hb3.cell (p := ⟨w1.heap.size, 4, none⟩) hz).trans x4); (have hlen : (⟨(dtP y mo d).toArray⟩ : ByteArray).size ≤ 100 := by rw [sz_mk]; have hib := isDate_bd HID.out HNB.out; exact dtP_len y mo d hib.1 hib.2.1 HID.out.m1 HID.out.m2 HID.out.d1 hib.2.2); (obtain ⟨D, hD⟩ : ∃ D : ByteArray, D = ⟨(dtP y mo d).toArray⟩ := ⟨_, rfl⟩); (obtain ⟨ok, hok⟩ : ∃ b, b = decide ((if y < 0 then -y else y) ≤ 999999999) := ⟨_, rfl⟩); rw [← hD] at hlen ⊢; rw [← hok]; (have HDD := Lib.hid hD); (have HOK := Lib.hid hok); clear hD hok)
  refine bodyPost_ret (v := .tuple #[.string (D ++ Q), .bool ok]) (by simp [results, Tryz.results59, go_sem]) rfl ⟨y, mo, d, ?_, HID.out, HB2.out.trans (hb3.mono HB2.out.size)⟩
  rw [HOK.out]
  exact rs_str2 (by rw [HDD.out, ← HQ.out, ba_app'])
set_option maxHeartbeats 2000000 in
theorem ownDateTime_calls (s : ByteArray) (m : Mt) (w : World) (hpw : Pow w) (hs : s.size ≤ 65536) (hm : rdDT s.data.toList = some m) :
    Calls Tryz.prog 57 #[.string s] w (DtP2 ((utM m).sec / 86400) ([84] ++ ckP (utM m).sec (utM m).part ++ (utM m).sp) w) := by
  have hb := rdDT_bd hm
  rw [← Lib.size_eq] at hb
  have hr : ∀ w, Calls Tryz.prog 36 #[.string s] w fun e w' => e = .returned (.tuple #[m.val, .bool true]) ∧ Below w.heap.size w w' := fun w => by
    refine (readDateTime_calls s w (by omega)).mono fun e w' h => ?_
    obtain ⟨m', he, hmo, hbw⟩ := h
    obtain rfl := hmo m hm
    rw [hm] at he
    exact ⟨he, hbw⟩
  have hu := fun w => utc_calls m w ⟨by have := hb.s1; omega, by have := hb.s2; omega⟩ ⟨by have := hb.z1; omega, by have := hb.z2; omega⟩
  have hus : (utM m).sec = m.sec - 60 * m.zone := rfl
  have hup : (utM m).part = m.part := rfl
  have huq : (utM m).sp.length ≤ 65537 := by
    unfold utM
    dsimp only
    split
    · simp
    · have := hb.sl; omega
  obtain ⟨M, hM⟩ : ∃ M, M = utM m := ⟨_, rfl⟩
  rw [← hM] at hu hus hup huq ⊢
  have hsb : -34000000000000000 ≤ M.sec ∧ M.sec ≤ 34000000000000000 := by rw [hus]; have := hb.s1; have := hb.s2; have := hb.z1; have := hb.z2; omega
  have hpl : M.part.length ≤ 65536 := by rw [hup]; have := hb.pl; omega
  have hd := fun w h => date_calls M w h hsb
  have hc := fun w h => clock_calls M w h hsb (by omega)
  have hck := ckP_len M.sec M.part
  have hnb : -400000000000 ≤ M.sec / 86400 ∧ M.sec / 86400 ≤ 400000000000 := by omega
  obtain ⟨n, hn⟩ : ∃ n, n = M.sec / 86400 := ⟨_, rfl⟩
  rw [← hn] at hd hnb ⊢
  obtain ⟨T, hT⟩ : ∃ T : ByteArray, T = ⟨(ckP M.sec M.part).toArray⟩ := ⟨_, rfl⟩
  rw [← hT] at hc
  have hTd : T.data.toList = ckP M.sec M.part := by rw [hT]
  rw [← hTd]
  have hTs : T.size ≤ 65700 := by rw [Lib.size_eq, hTd]; omega
  obtain ⟨ms, mp, mz, mn, mq⟩ := m
  obtain ⟨ns, np, nz, nn, nq'⟩ := M
  unfold Mt.val at hr hd hu hc
  dsimp only at hr hd hu hc huq ⊢
  obtain ⟨Q, hQ⟩ : ∃ Q : ByteArray, Q = ⟨nq'.toArray⟩ := ⟨_, rfl⟩
  have hQs : Q.size ≤ 65537 := by rw [hQ, sz_mk]; omega
  rw [← hQ] at hu hd hc
  have hQd : Q.data.toList = nq' := by rw [hQ]
  have HR := Lib.hid hr
  have HU := Lib.hid hu
  have HD := Lib.hid hd
  have HC := Lib.hid hc
  have HPW := Lib.hid hpw
  have HNB := Lib.hid hnb
  have HQ := Lib.hid hQd
  obtain ⟨TL, hTL⟩ : ∃ TL, TL = [84] ++ T.data.toList ++ nq' := ⟨_, rfl⟩
  rw [← hTL]
  have HTL := Lib.hid hTL
  clear hTL hr hd hu hc hpw hm hb hQ hn hnb hQd hT hTd hM hus hup huq hsb hpl hck
  go_enter Tryz.func57, Tryz.ntmps57
  go_upto_region 2 with (go_at_call 36; (with_reducible refine (HR.out _).mono ?_); rintro e w1 ⟨rfl, hb1⟩)
  obtain ⟨r1, hb⟩ := box1 w1 (.cells #[.int .i64 ms, .string ⟨mp.toArray⟩, .bool mz, .int .i64 mn, .string ⟨mq.toArray⟩] 76)
  generalize World.alloc w1 _ = w2 at r1 hb ⊢
  have hb2 := hb1.trans (hb.mono hb1.size)
  have HB2 := Lib.hid hb2
  have x0 := row_cell r1 0
  have x1 := row_cell r1 1
  have x2 := row_cell r1 2
  have x3 := row_cell r1 3
  have x4 := row_cell r1 4
  simp at x0 x1 x2 x3 x4
  have hz := lt_of_block r1
  have R1 := Lib.hid r1
  have hsz := hb1.size
  clear r1 hb1 hb hb2
  go_upto_region 3 with (go_at_call 102; (with_reducible refine (HU.out _).mono ?_); rintro e w3 ⟨rfl, hb3⟩; (have r3 := (hb3.block _ hz).trans R1.out); (have y0 := row_cell r3 0); (have y1 := row_cell r3 1); (have y2 := row_cell r3 2); (have y3 := row_cell r3 3); (have y4 := row_cell r3 4); simp at y0 y1 y2 y3 y4; (have f3 : ∀ i, w3.frozen? ⟨w1.heap.size, i, none⟩ = false := fun i => frozen_of_row _ _ _ _ _ r3))
  have s0 := set_row (i := 0) (v := .int .i64 ns) r3 rfl
  have s1 := set_row (i := 1) (v := .string ⟨np.toArray⟩) s0 rfl
  have s2 := set_row (i := 2) (v := .bool nz) s1 rfl
  have s3 := set_row (i := 3) (v := .int .i64 nn) s2 rfl
  have s4 := set_row (i := 4) (v := .string Q) s3 rfl
  have hbA := HB2.out.trans (hb3.mono HB2.out.size)
  have hbB := ((((hbA.setCell (p := ⟨w1.heap.size, 0, none⟩) hsz (.int .i64 ns)).setCell (p := ⟨w1.heap.size, 1, none⟩) hsz (.string ⟨np.toArray⟩)).setCell (p := ⟨w1.heap.size, 2, none⟩) hsz (.bool nz)).setCell (p := ⟨w1.heap.size, 3, none⟩) hsz (.int .i64 nn)).setCell (p := ⟨w1.heap.size, 4, none⟩) hsz (.string Q)
  generalize World.setCell (World.setCell (World.setCell (World.setCell (World.setCell w3 _ _) _ _) _ _) _ _) _ _ = w4 at s4 hbB ⊢
  clear x0 x1 x2 x3 x4 y0 y1 y2 y3 y4 r3 s0 s1 s2 s3 f3 hbA hb3
  have hz4 := lt_of_block s4
  have HP4 := Lib.hid (HPW.out.below hbB)
  have HBB := Lib.hid hbB
  have x0 := row_cell s4 0
  have x1 := row_cell s4 1
  have x2 := row_cell s4 2
  have x3 := row_cell s4 3
  have x4 := row_cell s4 4
  simp at x0 x1 x2 x3 x4
  have S4 := Lib.hid s4
  clear s4 hbB
  go_upto_region 4 with (go_at_call 103; (with_reducible refine (HD.out _ HP4.out).mono ?_); rintro e w5 ⟨y, mo, d, rfl, hid, hb5⟩; (have HID := Lib.hid hid); clear hid; (have hlen : (⟨(dtP y mo d).toArray⟩ : ByteArray).size ≤ 100 := by rw [sz_mk]; have hib := isDate_bd HID.out HNB.out; exact dtP_len y mo d hib.1 hib.2.1 HID.out.m1 HID.out.m2 HID.out.d1 hib.2.2); (obtain ⟨D, hD⟩ : ∃ D : ByteArray, D = ⟨(dtP y mo d).toArray⟩ := ⟨_, rfl⟩); (obtain ⟨ok, hok⟩ : ∃ b, b = decide ((if y < 0 then -y else y) ≤ 999999999) := ⟨_, rfl⟩); rw [← hD] at hlen ⊢; rw [← hok]; (have HDD := Lib.hid hD); (have HOK := Lib.hid hok); clear hD hok)
  have r5 := (hb5.block _ hz4).trans S4.out
  have hp5 := HP4.out.below hb5
  have hbC := HBB.out.trans (hb5.mono HBB.out.size)
  clear x0 x1 x2 x3 x4
  have q1 := Lw.row r5
  have x0 := fun x => (row_cell (q1 x) 0)
  have x1 := fun x => (row_cell (q1 x) 1)
  have x2 := fun x => (row_cell (q1 x) 2)
  have x3 := fun x => (row_cell (q1 x) 3)
  have x4 := fun x => (row_cell (q1 x) 4)
  simp at x0 x1 x2 x3 x4
  have hc2 : ∀ x : Lw w5, Calls Tryz.prog 104 #[.agg #[.int .i64 ns, .string ⟨np.toArray⟩, .bool nz, .int .i64 nn, .string Q]] x.to fun e w' => e = .returned (.string T) ∧ Below x.to.heap.size x.to w' := fun x => HC.out x.to (hp5.below x.bel)
  have HC2 := Lib.hid hc2
  have g1 : (D ++ ⟨#[84]⟩).size ≤ 101 := by rw [ByteArray.size_append]; show D.size + 1 ≤ _; omega
  have g2 : (D ++ ⟨#[84]⟩ ++ T).size ≤ 65801 := by rw [ByteArray.size_append]; omega
  clear q1 r5 hc2 hp5 hb5
  refine wp_region_lw (by kernel_rfl) (by kernel_rfl) ?_
  repeat (go_big_quiet_step (first | exact rfl | (go_at_call 104; with_reducible exact lw_call (HC2.out _))))
  refine wpQuiet_nil ?_
  rintro ⟨w6, hb6⟩
  dsimp only
  have hb7 := hbC.trans (hb6.mono hbC.size)
  clear x0 x1 x2 x3 x4 hbC hb6 g1 g2
  go_wp2_with fail
  refine bodyPost_ret (v := .tuple #[.string (D ++ ⟨#[84]⟩ ++ T ++ Q), .bool ok]) (by simp [results, Tryz.results57, go_sem]) rfl ⟨y, mo, d, ?_, HID.out, hb7⟩
  rw [HOK.out]
  exact rs_str2 (ba_ext (by rw [HTL.out, HDD.out]; simp [HQ.out]))
end Go.Proofs.YtlhcejbimlilaaaGreatDoor
