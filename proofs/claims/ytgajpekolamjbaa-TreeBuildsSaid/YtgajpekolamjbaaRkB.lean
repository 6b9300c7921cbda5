/- Build of the program: what its closure writes, the vector's bytes. -/
import Derived.Test.YtgajpekolamjbaaRkW
import Derived.Test.YtgajpekolamjbaaRkDir
import Derived.Test.YtgajpekolamjbaaCpK
set_option linter.unusedVariables false
set_option linter.unusedSimpArgs false
namespace Go.Proofs.Ytgajpekolamjbaa
open Go.RowKit Go.Tk
theorem cf_build {x1 x2 : Value} (p q r : Int) (w : World) : (callFunc 85 #[.int .i64 p, .int .i64 q, .int .i64 r, x1, x2]).run Try.prog w = .ok (.enter 85 #[.int .i64 p, .int .i64 q, .int .i64 r, x1, x2]) w := by kernel_rfl
theorem vt_le {d : List UInt8} {N part i v : Nat} (h : Vt d N (part, i, v)) (hN : N ≤ 67108864) : v ≤ 1000000000 := by
  have hc := cnt_le d N
  rcases h with ⟨_, h2⟩ | ⟨_, h2⟩ | ⟨_, h2⟩
  · simp only at h2
    have h3 := (List.getElem?_eq_some_iff.1 h2).1
    rw [gr_len] at h3
    rw [gr_get d i N (by omega)] at h2
    have := Option.some.inj h2
    have := cnt_le d (i * 2048)
    omega
  · simp only at h2
    have h3 := (List.getElem?_eq_some_iff.1 h2).1
    rw [sm_len] at h3
    rw [sm_get d i N (by omega)] at h2
    have := Option.some.inj h2
    have := cnt_le d (i * 256)
    omega
  · simp only at h2
    have h3 := (List.getElem?_eq_some_iff.1 h2).1
    rw [mk_len] at h3
    obtain ⟨u, a, _, _, e⟩ := mk_val d N i (by omega)
    rw [e] at h2
    have := Option.some.inj h2
    omega
theorem head_take {d : List UInt8} {N m E : Nat} (hE : 8 + d.length ≤ E) : ((putL (putL (List.replicate E 0) 0 N 4) 4 m 4).take 8 ++ (nums d ++ (putL (putL (List.replicate E 0) 0 N 4) 4 m 4).drop (8 + (nums d).length))).take (grO d) = nums (leB N 4 ++ leB m 4 ++ d) := by
  have hl : (putL (putL (List.replicate E 0) 0 N 4) 4 m 4).length = E := by rw [put_len, put_len]; simp
  have h8 : (putL (putL (List.replicate E 0) 0 N 4) 4 m 4).take 8 = nums (leB N 4 ++ leB m 4) := by
    apply List.ext_getElem?
    intro i
    by_cases hi : i < 8
    · rw [List.getElem?_take, if_pos hi, put_at _ _ _ _ _ (by rw [put_len]; simp; omega), nums_append]
      by_cases h4 : i < 4
      · rw [if_neg (by omega), put_at _ _ _ _ _ (by simp; omega), if_pos (by omega), List.getElem?_append_left (by rw [nums_len, le_len]; exact h4), le_nums h4]
        simp
      · rw [if_pos (by omega), List.getElem?_append_right (by rw [nums_len, le_len]; omega), nums_len, le_len, le_nums (by omega)]
    · rw [List.getElem?_eq_none (by rw [List.length_take]; omega), List.getElem?_eq_none (by rw [nums_len]; simp [le_len]; omega)]
  rw [h8, ← List.append_assoc, ← nums_append, List.take_append_of_le_length (by rw [nums_len]; simp [le_len]; unfold grO; omega), List.take_of_length_le (by rw [nums_len]; simp [le_len]; unfold grO; omega)]
theorem info1 : (Try.prog.info? 5).map (·.size) = some 1 := by kernel_rfl
theorem slI_kept0 {S : Nat → Prop} {k : IntKind} {w w' : World} {a : Option Addr} {n cap : Nat} {zs : List Int} (h : SlI k w a n cap zs) (hk : Kept S w w') (ha : ∀ x, a = some x → 0 < n → ¬ S x.block) : SlI k w' a n cap zs :=
  ⟨h.len, h.le, h.max, fun i hi => by
    obtain ⟨b, o, rfl, hc⟩ := h.cell i hi
    exact ⟨b, o, rfl, hk.cell hc (ha ⟨b, o, none⟩ rfl (by omega))⟩⟩
theorem put4_calls (w : World) (g : Nat) (zs : List Int) (o len c v : Nat) (hrow : RowI .u8 5 w g zs) (ho : o + len ≤ zs.length) (hk : 4 ≤ len) (hz : zs.length ≤ 9000000000000000000) (hv : v ≤ 9000000000000000000) :
    Calls Try.prog 83 #[.slice (some ⟨g, o, none⟩) len c, .int .i64 (v : Nat), .int .i64 4] w fun e w' => e = .returned (.tuple #[]) ∧ RowI .u8 5 w' g (putL zs o v 4) ∧ Kept (fun j => j = g) w w' :=
  put_calls w g zs o len c v 4 hrow ho hk hz hv (by decide)
/-- What the closure of Build captures, and what its row holds. -/
structure BI (w0 : World) (g pb pp : Nat) (d : List UInt8) (N : Nat) (w : World) (L : List (Nat × Nat × Nat)) : Prop where
  hb : w.heap[pb]? = some (.cells #[.slice (some ⟨g, 0, none⟩) (enO d N) (enO d N)] 25 (0, 0))
  hp : w.heap[pp]? = some (.cells #[.int .i64 8, .int .i64 (grO d : Nat), .int .i64 (smO d N : Nat), .int .i64 (mkO d N : Nat), .int .i64 (enO d N : Nat)] 138 (0, 0))
  row : ∃ zs, RowI .u8 5 w g zs ∧ RowT d N zs L
  kept : Kept (fun j => j = g) w0 w
set_option maxRecDepth 100000 in
set_option maxHeartbeats 1000000 in
theorem tell_build (w0 : World) (g pb pp : Nat) (hgb : pb ≠ g) (hgp : pp ≠ g) (d : List UInt8) (N : Nat) (hE : enO d N ≤ 1000000000) (w : World) (L : List (Nat × Nat × Nat)) (part i v : Nat) (hI : BI w0 g pb pp d N w L) (hv : Vt d N (part, i, v)) (hvb : v ≤ 1000000000) :
    Calls Try.prog 85 #[.int .i64 (part : Nat), .int .i64 (i : Nat), .int .i64 (v : Nat), .pointer (some ⟨pb, 0, none⟩), .pointer (some ⟨pp, 0, none⟩)] w fun e w' => e = .returned (.bool true) ∧ BI w0 g pb pp d N w' (L ++ [(part, i, v)]) := by
  obtain ⟨zs, hrow, hrt⟩ := hI.row
  have c0 := cell_of_row w pb 0 _ _ _ hI.hb
  have q1 := cell_of_row w pp 1 _ _ _ hI.hp
  have q2 := cell_of_row w pp 2 _ _ _ hI.hp
  have q3 := cell_of_row w pp 3 _ _ _ hI.hp
  have c0' : w.cell? ⟨pb, 0, none⟩ = some (.slice (some ⟨g, 0, none⟩) (enO d N) (enO d N)) := c0
  have q1' : w.cell? ⟨pp, 1, none⟩ = some (.int .i64 (grO d : Nat)) := q1
  have q2' : w.cell? ⟨pp, 2, none⟩ = some (.int .i64 (smO d N : Nat)) := q2
  have q3' : w.cell? ⟨pp, 3, none⟩ = some (.int .i64 (mkO d N : Nat)) := q3
  obtain ⟨w1, w2⟩ := wh_at hv
  have hput := hrt.put hv
  have hsz : szT (part, i, v) = if part = 256 then 2 else 4 := rfl
  have hpos : posT d N (part, i, v) = if part = 2048 then grO d + 4 * i else if part = 256 then smO d N + 2 * i else mkO d N + 4 * i := rfl
  have hpart : part = 2048 ∨ part = 256 ∨ part = 512 := by
    rcases hv with ⟨h, _⟩ | ⟨h, _⟩ | ⟨h, _⟩
    · exact .inl h
    · exact .inr (.inl h)
    · exact .inr (.inr h)
  have hcall := fun (o len c k : Nat) (h1 : o + len ≤ zs.length) (h2 : k ≤ len) (h3 : k ≤ 7) => put_calls w g zs o len c v k hrow h1 h2 (by have := hrt.len; omega) (by omega) h3
  have hfin : ∀ w', RowI .u8 5 w' g (putL zs (posT d N (part, i, v)) v (szT (part, i, v))) → Kept (fun j => j = g) w w' → BI w0 g pb pp d N w' (L ++ [(part, i, v)]) := fun w' h1 h2 =>
    ⟨(h2.block pb (lt_of_block hI.hb) hgb).trans hI.hb, (h2.block pp (lt_of_block hI.hp) hgp).trans hI.hp, ⟨_, h1, hput⟩, hI.kept.trans h2 (fun j hj => .inl hj)⟩
  have hlen := hrt.len
  have HC := Lib.hid hcall
  have HF := Lib.hid hfin
  have HLEN := Lib.hid hlen
  have HSZ := Lib.hid hsz
  have HPOS := Lib.hid hpos
  clear hcall hfin hlen hput hrt hrow hI c0 q1 q2 q3 w2 hv
  rcases hpart with rfl | rfl | rfl
  · have e1 : posT d N (2048, i, v) = grO d + 4 * i := HPOS.out
    have e2 : szT (2048, i, v) = 4 := HSZ.out
    rw [e1, e2] at w1
    have hc := HC.out (grO d + 4 * i) (enO d N - (grO d + 4 * i)) (enO d N - (grO d + 4 * i)) 4 (by rw [HLEN.out]; omega) (by omega) (by omega)
    rw [show ((4 : Nat) : Int) = 4 from rfl] at hc
    have hfin := HF.out
    rw [e1, e2] at hfin
    have HFF := Lib.hid hfin
    have HCC := Lib.hid hc
    clear hc hfin HF HC e1 e2 HPOS HSZ hsz
    go_enter Try.func85, Try.ntmps85
    go_wp2_with (go_at_call 83; (with_reducible refine HCC.out.mono ?_); rintro e w5 ⟨rfl, hr5, hk5⟩; (have HR5 := Lib.hid hr5); (have HK5 := Lib.hid hk5); clear hr5 hk5)
    go_ret
    exact ⟨rfl, HFF.out _ HR5.out HK5.out⟩
  · have e1 : posT d N (256, i, v) = smO d N + 2 * i := HPOS.out
    have e2 : szT (256, i, v) = 2 := HSZ.out
    rw [e1, e2] at w1
    have hc := HC.out (smO d N + 2 * i) (enO d N - (smO d N + 2 * i)) (enO d N - (smO d N + 2 * i)) 2 (by rw [HLEN.out]; omega) (by omega) (by omega)
    rw [show ((2 : Nat) : Int) = 2 from rfl] at hc
    have hfin := HF.out
    rw [e1, e2] at hfin
    have HFF := Lib.hid hfin
    have HCC := Lib.hid hc
    clear hc hfin HF HC e1 e2 HPOS HSZ hsz
    go_enter Try.func85, Try.ntmps85
    go_wp2_with (go_at_call 83; (with_reducible refine HCC.out.mono ?_); rintro e w5 ⟨rfl, hr5, hk5⟩; (have HR5 := Lib.hid hr5); (have HK5 := Lib.hid hk5); clear hr5 hk5)
    go_ret
    exact ⟨rfl, HFF.out _ HR5.out HK5.out⟩
  · have e1 : posT d N (512, i, v) = mkO d N + 4 * i := HPOS.out
    have e2 : szT (512, i, v) = 4 := HSZ.out
    rw [e1, e2] at w1
    have hc := HC.out (mkO d N + 4 * i) (enO d N - (mkO d N + 4 * i)) (enO d N - (mkO d N + 4 * i)) 4 (by rw [HLEN.out]; omega) (by omega) (by omega)
    rw [show ((4 : Nat) : Int) = 4 from rfl] at hc
    have hfin := HF.out
    rw [e1, e2] at hfin
    have HFF := Lib.hid hfin
    have HCC := Lib.hid hc
    clear hc hfin HF HC e1 e2 HPOS HSZ hsz
    go_enter Try.func85, Try.ntmps85
    go_wp2_with (go_at_call 83; (with_reducible refine HCC.out.mono ?_); rintro e w5 ⟨rfl, hr5, hk5⟩; (have HR5 := Lib.hid hr5); (have HK5 := Lib.hid hk5); clear hr5 hk5)
    go_ret
    exact ⟨rfl, HFF.out _ HR5.out HK5.out⟩
set_option maxRecDepth 100000 in
set_option maxHeartbeats 2000000 in
/-- Build of bits that are right. -/
theorem build_yes (w : World) (a : Option Addr) (n c : Nat) (d : List UInt8) (N : Nat) (hs : SlI .u8 w a n c (nums d)) (hl : d.length = (N + 7) / 8) (hp : padB d N = true) (hN : N ≤ 67108864) :
    Calls Try.prog 43 #[.slice a n c, .int .i64 (N : Nat)] w fun e w' => ∃ g, e = .returned (.tuple #[.slice (some ⟨g, 0, none⟩) (enO d N) (enO d N), .int .i64 0]) ∧ w.heap.size ≤ g ∧ RowI .u8 5 w' g (nums (whB d N)) ∧ Below w.heap.size w w' := by
  have hnl := hs.len
  rw [nums_len] at hnl
  subst hnl
  have hcn := cnt_le d N
  have hup := fun w => up_calls (N : Int) 8 w (by omega) (by omega) (by omega) (by omega)
  have hpd := fun w' (h : SlI .u8 w' a d.length c (nums d)) => padded_calls w' a d.length c d N h hl hN
  have hct := fun w' (h : SlI .u8 w' a d.length c (nums d)) => count_calls w' a d.length c d h (by omega)
  rw [pad_cnt hl hp (8 * d.length) (by omega)] at hct
  rw [hp] at hpd
  have hcut := fun w => cut_calls (N : Int) (cntB d N : Nat) w (by omega) (by omega) (by omega) (by omega)
  have hcv : cutV (N : Int) (cntB d N : Nat) = .agg #[.int .i64 8, .int .i64 (grO d : Nat), .int .i64 (smO d N : Nat), .int .i64 (mkO d N : Nat), .int .i64 (enO d N : Nat)] := by
    have e1 : (8 : Int) + ((N : Int) + 8 - 1) / 8 = (grO d : Nat) := by unfold grO; omega
    have e2 : (grO d : Int) + 4 * (((N : Int) + 2048 - 1) / 2048) = (smO d N : Nat) := by unfold smO; omega
    have e3 : (smO d N : Int) + 2 * (((N : Int) + 256 - 1) / 256) = (mkO d N : Nat) := by unfold mkO; omega
    have e4 : (mkO d N : Int) + 4 * (((cntB d N : Nat) + 512 - 1 : Int) / 512) = (enO d N : Nat) := by unfold enO; omega
    unfold cutV
    rw [e1, e2, e3, e4]
  rw [hcv] at hcut
  have hee : (((N : Int) + 8 - 1) / 8) = (d.length : Int) := by omega
  rw [hee] at hup
  have hE : enO d N ≤ 100000000 := by unfold enO mkO smO grO; omega
  have hdl : d.length ≤ 8388608 := by omega
  have HUP := Lib.hid hup
  have HPD := Lib.hid hpd
  have HCT := Lib.hid hct
  have HCUT := Lib.hid hcut
  have HS := Lib.hid hs
  have HL := Lib.hid hl
  have HP := Lib.hid hp
  clear hup hpd hct hcut hcv hee hs hl hp
  go_enter Try.func43, Try.ntmps43
  go_upto_region 11 with (first
    | (go_at_call 79; refine (HUP.out _).mono ?_; rintro e w1 ⟨rfl, rfl⟩)
    | (go_at_call 80; refine (HPD.out _ HS.out).mono ?_; rintro e w1 ⟨rfl, rfl⟩)
    | (go_at_call 81; refine (HCT.out _ HS.out).mono ?_; rintro e w1 ⟨rfl, rfl⟩)
    | (go_at_call 82; refine (HCUT.out _).mono ?_; rintro e w1 ⟨rfl, hb1⟩; (have HB1 := Lib.hid hb1); clear hb1))
  have hp2 : (w1.alloc (.cells #[.int .i64 8, .int .i64 (grO d : Nat), .int .i64 (smO d N : Nat), .int .i64 (mkO d N : Nat), .int .i64 (enO d N : Nat)] 138)).heap[w1.heap.size]? = some (.cells #[.int .i64 8, .int .i64 (grO d : Nat), .int .i64 (smO d N : Nat), .int .i64 (mkO d N : Nat), .int .i64 (enO d N : Nat)] 138 (0, 0)) := heap_alloc_new _ _
  have hb2 := HB1.out.alloc HB1.out.size (.cells #[.int .i64 8, .int .i64 (grO d : Nat), .int .i64 (smO d N : Nat), .int .i64 (mkO d N : Nat), .int .i64 (enO d N : Nat)] 138)
  have hpp : w.heap.size ≤ w1.heap.size := HB1.out.size
  generalize w1.alloc (.cells #[.int .i64 8, .int .i64 (grO d : Nat), .int .i64 (smO d N : Nat), .int .i64 (mkO d N : Nat), .int .i64 (enO d N : Nat)] 138) = w2 at hp2 hb2 ⊢
  generalize w1.heap.size = pp at hp2 hpp ⊢
  have q4 : w2.cell? ⟨pp, 4, none⟩ = some (.int .i64 (enO d N : Nat)) := cell_of_row w2 pp 4 _ _ _ hp2
  have HP2 := Lib.hid hp2
  have HB2 := Lib.hid hb2
  clear hp2 hb2 HB1
  go_upto_region 12 with (at_make; go_loud (refine wpList_mkJ rfl (.tmp 39) (.tmp 39) 25 rfl 5 (.int .u8 0) 1 Try.underlying25 Try.infoU8 rfl .i64 .i64 _ _ (enO d N) rfl rfl rfl rfl (by omega) (by omega) ?_; intro w3 hw3 hg3; (have HW3 := Lib.hid hw3); (have HG3 := Lib.hid hg3); clear hw3 hg3))
  have hg0 : w.heap.size ≤ w2.heap.size := HB2.out.size
  have hgg := HG3.out.size
  have hrow3 : RowI .u8 5 w3 w2.heap.size (List.replicate (enO d N) 0) := by
    have := HW3.out
    unfold RowI
    rw [this]; simp
  have hglt := hrow3.lt
  have hpplt := lt_of_block HP2.out
  have hb3 : Below w.heap.size w w3 := HB2.out.grown HG3.out HB2.out.size (fun j hj => by cases hj)
  have hp3 := (HG3.out.block pp hpplt (by simp)).trans HP2.out
  have hb4 := hb3.alloc hb3.size (.cells #[.slice (some ⟨w2.heap.size, 0, none⟩) (enO d N) (enO d N)] 25)
  have hrow4 : RowI .u8 5 (w3.alloc (.cells #[.slice (some ⟨w2.heap.size, 0, none⟩) (enO d N) (enO d N)] 25)) w2.heap.size (List.replicate (enO d N) 0) := (Below.heap_alloc w3 _ _ hglt).trans hrow3
  have hp4 := (Below.heap_alloc w3 (.cells #[.slice (some ⟨w2.heap.size, 0, none⟩) (enO d N) (enO d N)] 25) _ (lt_of_block hp3)).trans hp3
  have hbx4 : (w3.alloc (.cells #[.slice (some ⟨w2.heap.size, 0, none⟩) (enO d N) (enO d N)] 25)).heap[w3.heap.size]? = some (.cells #[.slice (some ⟨w2.heap.size, 0, none⟩) (enO d N) (enO d N)] 25 (0, 0)) := heap_alloc_new _ _
  have hne1 : w3.heap.size ≠ w2.heap.size := by omega
  have hne2 : pp ≠ w2.heap.size := by omega
  have hs4 := HS.out.keep (hb4)
  have hsz4 : w2.heap.size < (w3.alloc (.cells #[.slice (some ⟨w2.heap.size, 0, none⟩) (enO d N) (enO d N)] 25)).heap.size := by simp; omega
  generalize w3.alloc (.cells #[.slice (some ⟨w2.heap.size, 0, none⟩) (enO d N) (enO d N)] 25) = w4 at hb4 hrow4 hp4 hbx4 hs4 hsz4 ⊢
  clear hrow3 hglt hpplt hb3 hp3 hgg HW3 HG3 HB2 HP2 q4
  generalize w3.heap.size = pb at hbx4 hne1 ⊢
  generalize w2.heap.size = g at hbx4 hrow4 hne1 hne2 hg0 hsz4 ⊢
  have hblk : ∀ x, a = some x → 0 < d.length → ¬ x.block = g := fun x hx hp => by
    obtain ⟨b, o, e, hc⟩ := HS.out.cell 0 hp
    have hb : b < w.heap.size := block_lt_of_cell hc
    rw [hx] at e
    obtain rfl := Option.some.inj e
    show ¬ b = g
    omega
  have hE8 : 8 + d.length ≤ enO d N := by unfold enO mkO smO grO; omega
  have HB4 := Lib.hid hb4
  have HROW4 := Lib.hid hrow4
  have HP4 := Lib.hid hp4
  have HBX4 := Lib.hid hbx4
  have HS4 := Lib.hid hs4
  have HBLK := Lib.hid hblk
  have cb := cell_of_row w4 pb 0 _ _ _ hbx4
  have cb4 : w4.cell? ⟨pb, 0, none⟩ = some (.slice (some ⟨g, 0, none⟩) (enO d N) (enO d N)) := cb
  clear hb4 hrow4 hp4 hbx4 hs4 hblk cb
  go_upto_region 14 with (first
    | (go_at_call 83; (with_reducible refine (put4_calls w4 g _ 0 (enO d N) (enO d N) N HROW4.out (by simp) (by omega) (by simp; omega) (by omega)).mono ?_); rintro e w5 ⟨rfl, hr5, hk5⟩; (have HR5 := Lib.hid hr5); (have HK5 := Lib.hid hk5); (have cb5 := hk5.cell cb4 hne1); clear hr5 hk5)
    | (go_at_call 83; (with_reducible refine (put4_calls w5 g _ 4 (enO d N - 4) (enO d N - 4) (cntB d N) HR5.out (by rw [put_len]; simp; omega) (by omega) (by rw [put_len]; simp; omega) (by omega)).mono ?_); rintro e w6 ⟨rfl, hr6, hk6⟩; (have HR6 := Lib.hid hr6); (have HK6 := Lib.hid hk6); (have cb6 := hk6.cell cb5 hne1); clear hr6 hk6))
  have k46 := HK5.out.trans HK6.out (fun j hj => .inl hj)
  have hp6 := (k46.block pp (lt_of_block HP4.out) hne2).trans HP4.out
  have hbx6 := (k46.block pb (lt_of_block HBX4.out) hne1).trans HBX4.out
  have cp6 : w6.cell? ⟨pp, 0, none⟩ = some (.int .i64 8) := cell_of_row w6 pp 0 _ _ _ hp6
  have hs6 := slI_kept0 HS4.out k46 HBLK.out
  have hb6 := HB4.out.trans (k46.below (Nat.le_trans hg0 (Nat.le_of_lt hsz4)) (fun j hj => by subst hj; exact hg0))
  have HP6 := Lib.hid hp6
  have HBX6 := Lib.hid hbx6
  have HS6 := Lib.hid hs6
  have HB6 := Lib.hid hb6
  clear k46 hp6 hbx6 hs6 hb6 HP4 HBX4 HS4 HB4 HROW4 HK5 HK6 HR5 cb4 cb5 hsz4
  obtain ⟨b8, h8⟩ : ∃ b : Prop, (enO d N = 8) = b := ⟨_, rfl⟩
  rcases (show b8 = True ∨ b8 = False by by_cases h : enO d N = 8; exact .inl (h8.symm.trans (eq_true h)); exact .inr (h8.symm.trans (eq_false h))) with rfl | rfl
  all_goals
    go_upto_region 15 with (with_reducible refine wpList_copyK rfl (.tmp 51) (.tmp 52) 25 25 rfl 5 Try.underlying25 info1 _ _ _ _ _ _ rfl rfl .u8 g 8 _ 5 HR6.out (nums d) ?c1 ?c2 HS6.out ?c3 ?_)
    first | (case c1 => rw [nums_len]; show _ = min d.length _; omega) | skip
    first | (case c2 => intro hp; rw [nums_len] at hp; first | rfl | (exfalso; have := of_eq_true h8; omega)) | skip
    first | (case c3 => rw [put_len, put_len, nums_len]; simp; omega) | skip
    intro w7 hr7 hk7
    have HR7 := Lib.hid hr7
    have HK7 := Lib.hid hk7
    clear hr7 hk7
    have hp7 := (HK7.out.block pp (lt_of_block HP6.out) hne2).trans HP6.out
    have hbx7 := (HK7.out.block pb (lt_of_block HBX6.out) hne1).trans HBX6.out
    have hs7 := slI_kept0 HS6.out HK7.out HBLK.out
    have hgw : g < w6.heap.size := HR6.out.lt
    have hb7 := HB6.out.trans (HK7.out.below HB6.out.size (fun j hj => by subst hj; exact hg0))
    have hBI : BI w7 g pb pp d N w7 [] := ⟨hbx7, hp7, ⟨_, HR7.out, RowT.start (by simp [put_len, nums_len]; omega) (head_take hE8)⟩, Kept.refl _ _⟩
    have hdir := directory_calls 85 (.pointer (some ⟨pb, 0, none⟩)) (.pointer (some ⟨pp, 0, none⟩)) cf_build w7 a d.length c d N rfl HL.out HP.out hN (BI w7 g pb pp d N) hBI (fun w' L h => slI_kept0 hs7 h.kept HBLK.out) (fun w' L part i v h hv => tell_build w7 g pb pp hne1 hne2 d N (by omega) w' L part i v h hv (vt_le hv hN))
    have hmf : ∀ (fn : Fn) (first cap : Array Value) (w : World), (Instr.makeFunc fn first cap).run Try.prog w = .ok (.func fn first cap) w := fun _ _ _ _ => rfl
    have HD := Lib.hid hdir
    have HB7 := Lib.hid hb7
    have hgw7 : g < w7.heap.size := HR7.out.lt
    clear hp7 hbx7 hs7 hb7 hBI hdir
    go_wp2_with (go_at_call 84; (with_reducible refine HD.out.mono ?_); rintro e w8 ⟨rfl, L, hbi, hall⟩; (have HBI := Lib.hid hbi); (have HALL := Lib.hid hall); (have cb8 : w8.cell? ⟨pb, 0, none⟩ = some (.slice (some ⟨g, 0, none⟩) (enO d N) (enO d N)) := cell_of_row w8 pb 0 _ _ _ hbi.hb); clear hbi hall)
    go_ret2
    obtain ⟨zs, h1, h2⟩ := HBI.out.row
    obtain rfl := h2.all HALL.out
    exact ⟨g, rfl, hg0, h1, HB7.out.trans (HBI.out.kept.below HB7.out.size (fun j hj => by subst hj; exact hg0))⟩
end Go.Proofs.Ytgajpekolamjbaa
