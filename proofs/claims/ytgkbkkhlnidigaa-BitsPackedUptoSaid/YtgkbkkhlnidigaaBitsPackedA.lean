/- BitsPacked: packed numbers there and back. -/
import Derived.Test.YtgkbkkhlnidigaaPkBx
import Derived.Test.YtgkbkkhlnidigaaPkL
import Derived.Test.YtgkbkkhlnidigaaBitsOneA
import Derived.Test.YtgkbkkhlnidigaaCopiedcopied
import Derived.Test.YtgkbkkhlnidigaaSamesame
import Derived.Test.YtgkbkkhlnidigaaQu
import Derived.Deep.Cut
import Derived.Outline
import Derived.BigQuiet
import Derived.Deep.QuietTactic
set_option linter.unusedVariables false
set_option linter.unusedSimpArgs false
namespace Go.Proofs.Ytgkbkkhlnidigaa
open Go.RowKit Go.Shelf Go.Tk
theorem wq_stepG {P : Program} {ops : Array Oper} {C : World → Prop} {Q : Act → Prop} {o : Oper} {rest : List Oper} {a : Act} (v : Value) (hg : Region.wanted o (yielded ops a.tmps) = true) (h : ∀ w, C w → Oper.quietAt P o a C w v) (hk : wpQuiet P ops C Q rest (a.put o.dst v)) : wpQuiet P ops C Q (o :: rest) a := by
  show if Region.wanted o (yielded ops a.tmps) then o.quiet P a C (wpQuiet P ops C Q rest) else wpQuiet P ops C Q rest (a.put o.dst undef)
  rw [if_pos hg]
  exact ⟨v, h, hk⟩
theorem wq_skip {P : Program} {ops : Array Oper} {C : World → Prop} {Q : Act → Prop} {o : Oper} {rest : List Oper} {a : Act} (hg : Region.wanted o (yielded ops a.tmps) = false) (hk : wpQuiet P ops C Q rest (a.put o.dst undef)) : wpQuiet P ops C Q (o :: rest) a := by
  show if Region.wanted o (yielded ops a.tmps) then o.quiet P a C (wpQuiet P ops C Q rest) else wpQuiet P ops C Q rest (a.put o.dst undef)
  rw [if_neg (by rw [hg]; simp)]
  exact hk
theorem wq_valG {P : Program} {ops : Array Oper} {C : World → Prop} {Q : Act → Prop} {o : Oper} {rest : List Oper} {a : Act} (v : Value) (hg : Region.wanted o (yielded ops a.tmps) = true) (h : ∀ w, C w → (execOp a.eval o).run P w = .ok (.value v) w) (hk : wpQuiet P ops C Q rest (a.put o.dst v)) : wpQuiet P ops C Q (o :: rest) a :=
  wq_stepG v hg (fun w hw => by unfold Oper.quietAt; rw [h w hw]; exact ⟨rfl, rfl⟩) hk
theorem wq_rowG {P : Program} {ops : Array Oper} {C : World → Prop} {Q : Act → Prop} {o : Oper} {rest : List Oper} {a : Act} (hg : Region.wanted o (yielded ops a.tmps) = true) (ty : TypeId) (x : Operand) (ho : o.op = .load ty x) (g : Nat) (hx : a.eval x = .pointer (some ⟨g, 0, none⟩)) (t : TypeId) (cs : Array Value) (fr : Nat × Nat) (d : TypeDesc)
    (hb : ∀ w, C w → w.heap[g]? = some (.cells cs t fr)) (hu : P.underlying ty = some d) (hd : (match d with | .struct _ | .array _ _ => true | _ => false) = true) (hi : (P.info? ty).map (·.size) = some cs.size)
    (hk : wpQuiet P ops C Q rest (a.put o.dst (.agg cs))) : wpQuiet P ops C Q (o :: rest) a :=
  wq_valG _ hg (fun w hw => by
    unfold execOp
    simp only [ho, hx, Instr.loadAt, Instr.sureAddr, Sem.run_bind, Sem.run_pure, Result.andThen_ok, run_loadVar_row w g t ty cs fr d (hb w hw) hu hd hi]) hk
theorem wq_callG {P : Program} {ops : Array Oper} {C : World → Prop} {Q : Act → Prop} {o : Oper} {rest : List Oper} {a : Act} (v : Value) (f : FuncId) (args : Array Value) (hg : Region.wanted o (yielded ops a.tmps) = true) (he : ∀ w, (execOp a.eval o).run P w = .ok (.enter f args) w) (hc : ∀ w, C w → Calls P f args w fun e w' => e = .returned v ∧ C w')
    (hk : wpQuiet P ops C Q rest (a.put o.dst v)) : wpQuiet P ops C Q (o :: rest) a :=
  wq_stepG v hg (fun w hw => by unfold Oper.quietAt; rw [he w]; exact ⟨rfl, hc w hw⟩) hk
theorem flip_place (fl : Int) (m : Nat) (hm : 0 < m) (hb : m ≤ 1000000000) : ∃ k : Nat, wrap64 ((IntKind.u64.wrap fl).tmod (8 * (m : Int))) = (k : Int) ∧ k / 8 < m := by
  have h0 : 0 ≤ IntKind.u64.wrap fl := by rw [IntKind.wrap_u64]; omega
  rw [Int.tmod_eq_emod_of_nonneg h0]
  have h1 := Int.emod_nonneg (IntKind.u64.wrap fl) (show 8 * (m : Int) ≠ 0 by omega)
  have h2 := Int.emod_lt_of_pos (IntKind.u64.wrap fl) (show 0 < 8 * (m : Int) by omega)
  generalize (IntKind.u64.wrap fl) % (8 * (m : Int)) = x at *
  refine ⟨x.toNat, by unfold wrap64; omega, by omega⟩
theorem shl_u8 (r : Nat) (hr : r < 8) : IntKind.u8.wrap (2 ^ r) = ((2 ^ r : Nat) : Int) := by
  have : ∀ r : Fin 8, IntKind.u8.wrap (2 ^ r.val) = ((2 ^ r.val : Nat) : Int) := by decide
  exact this ⟨r, hr⟩
attribute [local go_sem] Oper.semAt_some
set_option maxRecDepth 100000 in
set_option maxHeartbeats 4000000 in
theorem bitspacked_go (w : World) (a : Option Addr) (n c : Nat) (z : List Int) (hrow : IsRow .u64 w a n c z) (hn : n ≤ 1048576) (wd : Int) (hwd : (Lit.int .i64 wd).wf = true) (b : Option Addr) (nb cb : Nat) (zb : List Int) (hrb : IsRow .u8 w b nb cb zb) (hnb : nb ≤ 1048576) (fl : Int) (hfl : (Lit.int .i64 fl).wf = true) :
    Calls Try.prog 9 #[.slice a n c, .int .i64 wd, .slice b nb cb, .int .i64 fl] w fun e w' => e = .returned (.bool true) ∧ Below w.heap.size w w' := by
  obtain ⟨hs, hnil, hwf⟩ := hrow.sl
  obtain ⟨zs, hzs⟩ : ∃ zs, zs = z.take n := ⟨_, rfl⟩
  rw [← hzs] at hs hwf
  have hu : U64 zs := fun i hi => by
    have := wf_u64 (hwf zs[i] (List.getElem_mem hi))
    simpa [hi] using this
  obtain ⟨hsb, hnilb, hwfb⟩ := hrb.sl
  obtain ⟨bs, hbs⟩ : ∃ bs, bs = zb.take nb := ⟨_, rfl⟩
  rw [← hbs] at hsb hwfb
  have hub : U8 bs := fun i hi => by
    have := wf_u8 (hwfb bs[i] (List.getElem_mem hi))
    simpa [hi] using this
  obtain ⟨wd0, wd1⟩ := wf_i64 hwd
  have HS := Lib.hid hs
  have HU := Lib.hid hu
  have HSB := Lib.hid hsb
  have HUB := Lib.hid hub
  have HWD := Lib.hid hwd
  have HL := Lib.hid hs.len
  have HLB := Lib.hid hsb.len
  have hcap := hsb.le
  have hcap2 := hs.le
  clear hzs hbs hwf hwfb hrow hrb hnil hnilb hs hu hsb hub hwd
  refine (callsIn_wide (n := 6)).1 ?_
  refine callsIn_of_wp_marks Try.func9 rfl trivial ?_ rfl
  simp only [Try.ntmps9, List.size_toArray, List.length_cons, List.length_nil, Nat.reduceAdd, Nat.reduceSub, Array.replicate_succ, Array.replicate_zero, List.push_toArray, List.append_toArray, List.nil_append, List.cons_append]
  refine wpIn_wide.2 ?_
  go_upto_if 36 with (first
    | (go_at_call 30; refine (awake_calls _).mono ?_; rintro e w1 ⟨rfl, k1⟩; have b1 := k1.below (B := w.heap.size) (Nat.le_refl _) (fun _ h => h.elim))
    | (go_at_call 14; refine (pack_calls _ _ _ _ _ (HS.out.keep b1) HU.out wd (by omega)).mono ?_; rintro e w2 ⟨va, rfl, owa, b2⟩))
  have z1 := b1.size
  have z2 := b2.size
  have bw2 : Below w.heap.size w w2 := b1.trans (b2.mono z1)
  have hs2 : SlI .u64 w2 a n c zs := (HS.out.keep b1).keep b2
  obtain ⟨aa, ca, rfl, sa, hsa⟩ := owa.sl
  go_cut [1, 9, 10] from 27 (fun s1 s9 s10 wx => s1 = .int .i64 wd ∧ Below w.heap.size w wx)
  case first =>
    cases hok : packOk zs wd with
    | false =>
      have pe : packErr zs wd = 14 := by unfold packErr; rw [hok]; rfl
      have po : packOut zs wd = [] := by unfold packOut; rw [hok]; rfl
      rw [po] at sa owa ⊢
      rw [pe]
      clear pe po
      go_wp2
      go_meet
      exact ⟨rfl, bw2⟩
    | true =>
      obtain ⟨⟨h0, h1⟩, ha⟩ : (0 ≤ wd ∧ wd ≤ 64) ∧ anyW zs wd = false := by simpa [packOk] using hok
      obtain ⟨d, rfl⟩ := Int.eq_ofNat_of_zero_le h0
      have hd : d ≤ 64 := by omega
      have hl := HL.out
      have pe : packErr zs (d : Int) = 0 := by unfold packErr; rw [hok]; rfl
      obtain ⟨R, hR⟩ : ∃ R, R = (zs.length * d + 7) / 8 := ⟨_, rfl⟩
      have po : packOut zs d = packTo zs d R zs.length := by unfold packOut; rw [if_pos hok, Int.toNat_natCast, ← hR]
      obtain ⟨A, hA⟩ : ∃ A, A = packTo zs d R zs.length := ⟨_, rfl⟩
      rw [← hA] at po
      rw [po] at sa owa ⊢
      rw [pe]
      have hAl : A.length = R := by rw [hA, packTo_len]
      have hAu : U8 A := by rw [hA]; exact packTo_u8 _ _ _ _
      have hop : opErr A (n : Nat) (d : Nat) = 0 := by rw [hA, hR, ← hl]; exact open_pack HU.out hd (by omega)
      have hfit := anyW_fit ha
      have hnd : n * d ≤ 8 * A.length := by rw [hAl, hR, hl]; omega
      have hnum : ∀ i, i < n → (numT A d i d : Int) = zs.getD i 0 := fun i hi => by
        have hi2 : i < zs.length := by omega
        rw [hA, num_pack HU.out (by omega) hfit i hi2]
        have := (HU.out i hi2).1
        omega
      have hov : opVal A aa ca (n : Nat) (d : Nat) = .agg #[.slice aa A.length ca, .int .i64 (n : Nat), .int .i64 (d : Nat)] := by unfold opVal; rw [if_pos hop]
      have HOP := Lib.hid hop
      have HOV := Lib.hid hov
      have HNUM := Lib.hid hnum
      have HAU := Lib.hid hAu
      have HA := Lib.hid hA
      have HR := Lib.hid hR
      have HAL := Lib.hid hAl
      have HF := Lib.hid hfit
      have hndb : n * d ≤ n * 64 := Nat.mul_le_mul_left n hd
      clear hok ha pe po hA hAl hAu hop hov hnum hR hfit hl
      go_wp2_with (first
        | (go_at_call 10; refine (popen_calls _ _ _ _ _ sa HAU.out _ _).mono ?_; rw [HOP.out, HOV.out]; rintro e w3 ⟨rfl, b3⟩)
        | (go_at_call 42; refine (plen_calls _ _ _ _).mono ?_; rintro e w4 ⟨rfl, b4⟩))
      have z3 := b3.size
      have z4 : w3.heap.size + 1 ≤ w4.heap.size := by have := b4.size; simpa using this
      have hg := (b4.block w3.heap.size (by simp)).trans (heap_alloc_new w3 _)
      have b34 : Below w2.heap.size w2 w4 := b3.trans (((Below.refl _ w3).alloc z3 _).trans (b4.mono (by simp; omega)))
      have bw4 : Below w.heap.size w w4 := bw2.trans (b34.mono (by omega))
      have hs4 := hs2.keep b34
      have sa4 := sa.keep b34
      have HG := Lib.hid hg
      have HS4 := Lib.hid hs4
      have SA4 := Lib.hid sa4
      have BW4 := Lib.hid bw4
      have HI := Lib.hid Try.sizePk
      clear hg hs4 sa4 bw4 b34 b4 b3
      go_loopw [13] (fun iv wr => ∃ i : Nat, iv = .int .i64 (i : Nat) ∧ i ≤ n ∧ Below w4.heap.size w4 wr) (fun iv _ => n - (intOf iv).toNat)
      case atStart => exact ⟨0, rfl, Nat.zero_le _, Below.refl _ _⟩
      case round =>
        obtain ⟨i, rfl, hi, hbr⟩ := hrel
        by_cases hlt : i < n
        · obtain ⟨gb, go, rfl, hc⟩ := HS4.out.cell i hlt
          have HC := Lib.hid hc
          clear hc
          go_upto_region 11 with fail
          refine wp_region_quiet_tail (fun w' => Below w4.heap.size w4 w') 7 (by kernel_rfl) (by kernel_rfl) hbr.drew ?_
          simp only [List.take_succ_cons, List.take_zero, List.drop_succ_cons, List.drop_zero]
          refine wq_row rfl 24 _ rfl w3.heap.size rfl _ _ _ _ (fun w' h => (h.block _ (by omega)).trans HG.out) Try.underlying24 rfl HI.out ?_
          refine wq_val (.int .i64 (i : Nat)) rfl (fun w' _ => by simp [go_sem]) ?_
          refine wq_call (.int .u64 (numT A d i d : Nat)) _ _ rfl (fun w' => by simp [go_sem]) (fun w' h => (pget_calls w' aa A.length ca n i d A (SA4.out.keep h) HAU.out hlt hd (by omega) hnd).mono fun _ _ ⟨h1, h2⟩ => ⟨h1, h.trans (h2.mono h.size)⟩) ?_
          refine wq_val (.slice (some ⟨gb, go, none⟩) n c) rfl (fun w' _ => by simp [go_sem]) ?_
          refine wq_val (.int .i64 (i : Nat)) rfl (fun w' _ => by simp [go_sem]) ?_
          refine wq_val (.pointer (some ⟨gb, go + i, none⟩)) rfl (fun w' _ => by simp [go_sem, hlt]) ?_
          refine wq_val (.int .u64 (zs.getD i 0)) rfl (fun w' h => by have hc := (h.cell (p := ⟨gb, go + i, none⟩) (block_lt_of_cell HC.out)).trans HC.out; simp [go_sem, hc]) ?_
          refine wpQuiet_nil ?_
          intro w' hw'
          have HW' := Lib.hid hw'
          have hnm := HNUM.out i hlt
          rw [hnm]
          clear hbr hw' hnm
          go_wp2_with fail
          go_roundw
          case rel => exact ⟨i + 1, by go_num, by omega, HW'.out⟩
          case measure => simp [intOf]; omega
        · obtain rfl : i = n := by omega
          generalize wr = wr0 at hbr ⊢
          have sar := SA4.out.keep hbr
          have hsr := HS4.out.keep hbr
          have bwr := BW4.out.trans (hbr.mono (by omega))
          have zr := hbr.size
          have SAR := Lib.hid sar
          have HSR := Lib.hid hsr
          have BWR := Lib.hid bwr
          clear sar hsr bwr hbr
          by_cases hA0 : A.length = 0
          · go_wp2_with fail
            go_meet
            exact ⟨rfl, BWR.out⟩
          · have hA1 : 0 < A.length := by omega
            have hAb : A.length ≤ 8388608 := by rw [HAL.out, HR.out]; have := HL.out; rw [this]; omega
            go_upto_region 15 with (go_at_call 11; refine (copied_calls _ _ _ _ _ SAR.out (by omega)).mono ?_; rintro e w5 ⟨rfl, fr5⟩)
            go_wp2_with fail
            obtain ⟨k, hk, hk8⟩ := flip_place fl A.length hA1 (by omega)
            rw [hk]
            obtain ⟨q8, hq8⟩ : ∃ q8, q8 = k / 8 := ⟨_, rfl⟩
            obtain ⟨r8, hr8⟩ : ∃ r8, r8 = k % 8 := ⟨_, rfl⟩
            have hk83 : ((k : Int)) / 8 = (q8 : Int) := by omega
            have hk8m : ((k : Int)) % 8 = (r8 : Int) := by omega
            have hk84 : ((k : Int)).tdiv 8 = (q8 : Int) := by rw [Int.tdiv_eq_ediv_of_nonneg (by omega)]; exact hk83
            have hk8n : ((k : Int)).tmod 8 = (r8 : Int) := by rw [Int.tmod_eq_emod_of_nonneg (by omega)]; exact hk8m
            have hq8l : q8 < A.length := by omega
            have hw83 : IntKind.i64.wrap (q8 : Int) = (q8 : Int) := by rw [IntKind.wrap_i64]; omega
            have hr8l : r8 < 8 := by omega
            obtain ⟨x, hx⟩ : ∃ x : Nat, A.getD q8 0 = x := ⟨(A.getD q8 0).toNat, by have := HAU.out q8 hq8l; omega⟩
            have hx8 : x < 256 := by have := HAU.out q8 hq8l; omega
            have hxc : ∀ m, (w5.drewN m).cell? ⟨wr0.heap.size, q8, none⟩ = some (.int .u8 (x : Nat)) := fun m => by rw [← hx]; exact fr5.row.cell q8 hq8l
            have hp8 : (2 : Nat) ^ r8 < 2 ^ 8 := Nat.pow_lt_pow_right (by omega) hr8l
            obtain ⟨s8, hs8⟩ : ∃ s8 : Nat, s8 = 2 ^ r8 := ⟨_, rfl⟩
            rw [← hs8] at hp8
            have hshl : IntKind.u8.wrap (2 ^ r8) = (s8 : Int) := by rw [hs8]; exact shl_u8 r8 hr8l
            have hxor := xor_u8 x s8 hx8 (by omega)
            obtain ⟨y8, hy8⟩ : ∃ y8 : Nat, y8 = x ^^^ s8 := ⟨_, rfl⟩
            rw [← hy8] at hxor
            have hfl : flipB A k = A.set q8 (y8 : Int) := by
              unfold flipB
              rw [← hq8, ← hr8, ← hs8, hx, Int.toNat_natCast, ← hy8]
            have HFL := Lib.hid hfl
            have HK8 := Lib.hid hk8
            have HQ8 := Lib.hid hq8
            clear hfl hq8 hr8 hs8 hy8 hx hp8
            refine wp_region_quiet_tail (fun w' => ∃ n, w' = World.drewN w5 n) 9 (by kernel_rfl) (by kernel_rfl) ⟨1, rfl⟩ ?_
            simp only [List.take_succ_cons, List.take_zero, List.drop_succ_cons, List.drop_zero]
            refine wq_val (.slice (some ⟨wr0.heap.size, 0, none⟩) A.length A.length) rfl (fun w' _ => by simp [go_sem]) ?_
            refine wq_val (.int .i64 (k : Nat)) rfl (fun w' _ => by simp [go_sem]) ?_
            refine wq_val (.int .i64 (q8 : Nat)) rfl (fun w' _ => by simp [go_sem, hk83, hk84, hw83]) ?_
            refine wq_val (.pointer (some ⟨wr0.heap.size, q8, none⟩)) rfl (fun w' _ => by simp [go_sem, hq8l]) ?_
            refine wq_val (.int .u8 (x : Nat)) rfl (fun w' h => by obtain ⟨m, rfl⟩ := h; simp [go_sem, hxc]) ?_
            refine wq_val (.int .i64 (k : Nat)) rfl (fun w' _ => by simp [go_sem]) ?_
            refine wq_val (.int .i64 (r8 : Nat)) rfl (fun w' _ => by simp [go_sem, hk8m, hk8n]) ?_
            refine wq_val (.int .u8 (s8 : Nat)) rfl (fun w' _ => by simp [go_sem, hshl]) ?_
            refine wq_val (.int .u8 (y8 : Nat)) rfl (fun w' _ => by simp [go_sem, hxor]) ?_
            refine wpQuiet_nil ?_
            rintro _ ⟨q, rfl⟩
            have hxq := hxc q
            have hfz : (w5.drewN q).frozen? ⟨wr0.heap.size, q8, none⟩ = false := fr5.row.frozen q8
            clear hxc hxor hshl hk83 hk8m hk84 hk8n hk
            go_upto_region 17 with fail
            generalize hw6 : World.setCell (w5.drewN q) _ _ = w6
            have row6 : RowI .u8 5 w6 wr0.heap.size (flipB A k) := by rw [← hw6, HFL.out]; exact (fr5.row.drewN q).set q8 _
            have b6 : Below wr0.heap.size wr0 w6 := by rw [← hw6]; exact (below_drewN fr5.below q).setCell (p := ⟨wr0.heap.size, q8, none⟩) (Nat.le_refl _) _
            clear hw6 hxq hfz fr5
            have F6 : (flipB A k).length = A.length := flipB_len _ _
            have fsl := row6.sl A.length A.length (by omega) F6 (by omega)
            rw [List.take_of_length_le (by omega)] at fsl
            have FU : U8 (flipB A k) := flipB_u8 HAU.out k HK8.out
            have z6 := b6.size
            have hs6 := HSR.out.keep b6
            have bw6 := BWR.out.trans (b6.mono (by omega))
            have ftwo := opErr_two (bs := flipB A k) (n := i) (d := d) hd (by omega) (by rw [F6, HAL.out, HR.out, HL.out])
            have flaw := fun h0 => flip_law HU.out HR.out HF.out k (by rw [← HAL.out]; exact HK8.out) h0
            rw [← HA.out, HL.out] at flaw
            obtain ⟨fe, hfe⟩ : ∃ fe, fe = opErr (flipB A k) (i : Nat) (d : Nat) := ⟨_, rfl⟩
            rw [← hfe] at ftwo flaw
            have HFE := Lib.hid hfe
            have HLAW := Lib.hid flaw
            have HFU := Lib.hid FU
            have FSL := Lib.hid fsl
            have HS6 := Lib.hid hs6
            have BW6 := Lib.hid bw6
            clear hfe flaw FU fsl hs6 bw6 b6 row6
            rcases ftwo with rfl | rfl
            · have hov6 : opVal (flipB A k) (some ⟨wr0.heap.size, 0, none⟩) A.length (i : Nat) (d : Nat) = .agg #[.slice (some ⟨wr0.heap.size, 0, none⟩) A.length A.length, .int .i64 (i : Nat), .int .i64 (d : Nat)] := by unfold opVal; rw [if_pos HFE.out.symm, F6]
              have HOV6 := Lib.hid hov6
              clear hov6
              go_wp2_with (go_at_call 10; refine (popen_calls _ _ _ _ _ FSL.out HFU.out _ _).mono ?_; rw [HOV6.out, ← HFE.out]; rintro e w7 ⟨rfl, b7⟩)
              have z7 := b7.size
              have hg7 := heap_alloc_new w7 (.cells #[.slice (some ⟨wr0.heap.size, 0, none⟩) A.length A.length, .int .i64 (i : Nat), .int .i64 (d : Nat)] 24)
              have b8 : Below w6.heap.size w6 (w7.alloc (.cells #[.slice (some ⟨wr0.heap.size, 0, none⟩) A.length A.length, .int .i64 (i : Nat), .int .i64 (d : Nat)] 24)) := b7.alloc z7 _
              have z8 : w7.heap.size < (w7.alloc (.cells #[.slice (some ⟨wr0.heap.size, 0, none⟩) A.length A.length, .int .i64 (i : Nat), .int .i64 (d : Nat)] 24)).heap.size := by simp
              have HG7 := Lib.hid hg7
              have B8 := Lib.hid b8
              have Z8 := Lib.hid z8
              clear hg7 b8 b7 z8
              generalize (w7.alloc (.cells #[.slice (some ⟨wr0.heap.size, 0, none⟩) A.length A.length, .int .i64 (i : Nat), .int .i64 (d : Nat)] 24)) = w8 at HG7 B8 Z8 ⊢
              have S8 := Lib.hid (HS6.out.keep B8.out)
              have A8 := Lib.hid (FSL.out.keep B8.out)
              go_loopw [18, 19] (fun sv jv wx => ∃ (j : Nat) (sb : Bool), sv = .bool sb ∧ jv = .int .i64 (j : Nat) ∧ j ≤ i ∧ (sb = true → ∀ t, t < j → (numT (flipB A k) d t d : Int) = zs.getD t 0) ∧ Below w8.heap.size w8 wx) (fun _ jv _ => i - (intOf jv).toNat)
              case atStart => exact ⟨0, true, rfl, rfl, Nat.zero_le _, fun _ t ht => by omega, Below.refl _ _⟩
              case round =>
                obtain ⟨j, sb, rfl, rfl, hj, hsb, hbx⟩ := hrel
                have HSB := Lib.hid hsb
                clear hsb
                by_cases hjl : j < i
                · obtain ⟨gc, go2, ea, hc2⟩ := S8.out.cell j hjl
                  have HC2 := Lib.hid hc2
                  have HEA := Lib.hid ea
                  clear hc2 ea
                  go_upto_region 23 with fail
                  refine wp_region_quiet_tail (fun w' => Below w8.heap.size w8 w') 11 (by kernel_rfl) (by kernel_rfl) hbx.drew ?_
                  simp only [List.take_succ_cons, List.take_zero, List.drop_succ_cons, List.drop_zero]
                  cases sb with
                  | true =>
                    have hone := HSB.out rfl
                    obtain ⟨x9, hx9⟩ : ∃ x9, x9 = zs.getD j 0 := ⟨_, rfl⟩
                    obtain ⟨y9, hy9⟩ : ∃ y9, y9 = (numT (flipB A k) d j d : Int) := ⟨_, rfl⟩
                    have HX9 := Lib.hid hx9
                    have HY9 := Lib.hid hy9
                    have HONE := Lib.hid hone
                    clear hx9 hy9 hone
                    go_big_quiet_step (fail)
                    go_big_quiet_step (fail)
                    refine wq_rowG rfl 24 _ rfl w7.heap.size rfl _ _ _ _ (fun w' h => (h.block _ Z8.out).trans HG7.out) Try.underlying24 rfl HI.out ?_
                    simp only [Act.put, List.setIfInBounds_toArray, List.set_cons_succ, List.set_cons_zero]
                    go_big_quiet_step (fail)
                    refine wq_callG (.int .u64 y9) 43 #[.agg #[.slice (some ⟨wr0.heap.size, 0, none⟩) A.length A.length, .int .i64 (i : Nat), .int .i64 (d : Nat)], .int .i64 (j : Nat)] rfl (fun w' => by simp [go_sem]) (fun w' h => by rw [HY9.out]; exact (pget_calls w' (some ⟨wr0.heap.size, 0, none⟩) A.length A.length i j d (flipB A k) (A8.out.keep h) HFU.out hjl hd (by omega) hnd).mono fun _ _ ⟨h1, h2⟩ => ⟨h1, h.trans (h2.mono h.size)⟩) ?_
                    simp only [Act.put, List.setIfInBounds_toArray, List.set_cons_succ, List.set_cons_zero]
                    go_big_quiet_step (fail)
                    go_big_quiet_step (fail)
                    refine wq_valG (.pointer (some ⟨gc, go2 + j, none⟩)) rfl (fun w' _ => by rw [HEA.out]; simp [go_sem, hjl]) ?_
                    simp only [Act.put, List.setIfInBounds_toArray, List.set_cons_succ, List.set_cons_zero]
                    refine wq_valG (.int .u64 x9) rfl (fun w' h => by have hc := (h.cell (p := ⟨gc, go2 + j, none⟩) (block_lt_of_cell HC2.out)).trans HC2.out; rw [← HX9.out] at hc; simp [go_sem, hc]) ?_
                    simp only [Act.put, List.setIfInBounds_toArray, List.set_cons_succ, List.set_cons_zero]
                    refine wq_valG (.bool (y9 == x9)) rfl (fun w' h => by simp [go_sem]) ?_
                    simp only [Act.put, List.setIfInBounds_toArray, List.set_cons_succ, List.set_cons_zero]
                    refine wq_val (.bool (y9 == x9)) rfl (fun w' h => by simp [go_sem]) ?_
                    simp only [Act.put, List.setIfInBounds_toArray, List.set_cons_succ, List.set_cons_zero]
                    refine wpQuiet_nil ?_
                    intro w' hw'
                    have HW9 := Lib.hid hw'
                    clear hbx hw'
                    go_wp2_with fail
                    go_roundw
                    case rel =>
                      refine ⟨j + 1, (y9 == x9), rfl, by go_num, by omega, fun hb t ht => ?_, HW9.out⟩
                      by_cases htj : t = j
                      · subst htj
                        rw [← HY9.out, ← HX9.out]
                        simpa using hb
                      · exact HONE.out t (by omega)
                    case measure => simp [intOf]; omega
                  | false =>
                    repeat (go_big_quiet_step (fail))
                    refine wq_val (.bool false) rfl (fun w' h => by simp [go_sem]) ?_
                    simp only [Act.put, List.setIfInBounds_toArray, List.set_cons_succ, List.set_cons_zero]
                    refine wpQuiet_nil ?_
                    intro w' hw'
                    have HW9 := Lib.hid hw'
                    clear hbx hw'
                    go_wp2_with fail
                    go_roundw
                    case rel => exact ⟨j + 1, false, rfl, by go_num, by omega, (fun hb => by cases hb), HW9.out⟩
                    case measure => simp [intOf]; omega
                · obtain rfl : j = i := by omega
                  cases sb with
                  | true =>
                    exfalso
                    obtain ⟨t, ht, hne⟩ := HLAW.out (by trivial)
                    exact hne (HSB.out rfl t ht)
                  | false =>
                    go_wp2_with fail
                    go_meet
                    have y1 := BW6.out.size
                    have y2 := B8.out.size
                    exact ⟨rfl, BW6.out.trans ((B8.out.trans (hbx.mono y2)).mono y1)⟩
            · have hov6 : opVal (flipB A k) (some ⟨wr0.heap.size, 0, none⟩) A.length (i : Nat) (d : Nat) = .agg #[.slice none 0 0, .int .i64 0, .int .i64 0] := by unfold opVal; rw [if_neg (by rw [← HFE.out]; omega)]
              have HOV6 := Lib.hid hov6
              clear hov6
              go_wp2_with (go_at_call 10; refine (popen_calls _ _ _ _ _ FSL.out HFU.out _ _).mono ?_; rw [HOV6.out, ← HFE.out]; rintro e w7 ⟨rfl, b7⟩)
              go_meet
              exact ⟨rfl, (BW6.out.trans (b7.mono (by omega))).alloc (by have := b7.size; omega) _⟩
  case rest =>
    obtain ⟨rfl, hbw⟩ := hcut
    have hsw := HSB.out.keep hbw
    have HSW := Lib.hid hsw
    have HBW := Lib.hid hbw
    have hzw := hbw.size
    clear hsw hbw
    by_cases h1 : wd < 1
    · have e1 : decide (wd < 1) = true := decide_eq_true h1
      go_wp2
      show LeavesInM Fence.wide 6 _ _ _ _ _ .returning _
      exact ⟨_, (results_tmp rfl _ _ _).trans rfl, rfl, HBW.out⟩
    · obtain ⟨D, hD⟩ : ∃ D : Nat, wd = (D : Int) := ⟨wd.toNat, by omega⟩
      subst hD
      have hD1 : 1 ≤ D := by omega
      have e1 : decide ((D : Int) < 1) = false := decide_eq_false h1
      obtain ⟨N, hN⟩ : ∃ N : Nat, N = 8 * nb / min D 64 := ⟨_, rfl⟩
      have hNb : N ≤ 8388608 := by
        have : 8 * nb / min D 64 ≤ 8 * nb := Nat.div_le_self _ _
        omega
      have hq : (8 * (nb : Int)) / min (D : Int) 64 = (N : Nat) := by
        have hm : min (D : Int) 64 = ((min D 64 : Nat) : Int) := by omega
        rw [hN, hm]
        generalize min D 64 = m
        rw [Int.natCast_ediv]
        simp
      have HN := Lib.hid hN
      clear hN
      by_cases hop : opErr bs (N : Nat) (D : Nat) = 0
      · have hz := opErr_zero hop
        have hov : opVal bs b cb (N : Nat) (D : Nat) = .agg #[.slice b nb cb, .int .i64 (N : Nat), .int .i64 (D : Nat)] := by unfold opVal; rw [if_pos hop, HLB.out]
        obtain ⟨hd, hNm, hbl, hpad⟩ := hz
        have HOV := Lib.hid hov
        have HOP := Lib.hid hop
        have HBL := Lib.hid hbl
        have HPAD := Lib.hid hpad
        clear hov hop hbl hpad
        go_upto_region 36 with (go_at_call 10; refine (popen_calls _ _ _ _ _ HSW.out HUB.out _ _).mono ?_; rw [HOV.out, HOP.out]; rintro e w3 ⟨rfl, b3⟩)
        have hg3 := heap_alloc_new w3 (.cells #[.slice b nb cb, .int .i64 (N : Nat), .int .i64 (D : Nat)] 24)
        have z3 := b3.size
        have b4 : Below w.heap.size w (w3.alloc (.cells #[.slice b nb cb, .int .i64 (N : Nat), .int .i64 (D : Nat)] 24)) := (HBW.out.trans (b3.mono hzw)).alloc (by omega) _
        have s4 : SlI .u8 (w3.alloc (.cells #[.slice b nb cb, .int .i64 (N : Nat), .int .i64 (D : Nat)] 24)) b nb cb bs := HSB.out.keep b4
        have z4 : (w3.alloc (.cells #[.slice b nb cb, .int .i64 (N : Nat), .int .i64 (D : Nat)] 24)).heap.size = w3.heap.size + 1 := by simp
        obtain ⟨g3, hg3e⟩ : ∃ g3, g3 = w3.heap.size := ⟨_, rfl⟩
        have hwg : w.heap.size ≤ g3 := by omega
        rw [← hg3e] at hg3 z4 ⊢
        generalize w3.alloc (.cells #[.slice b nb cb, .int .i64 (N : Nat), .int .i64 (D : Nat)] 24) = w4 at hg3 b4 s4 z4 ⊢
        have HB4 := Lib.hid b4
        have HS4 := Lib.hid s4
        have HI := Lib.hid Try.sizePk
        clear b4 s4 b3 hg3e
        refine (wpIn_wide (n := 6)).1 ?_
        gi_wp2
        have hnil : ∀ (p : Value) (w : World), (binOp .eql 33 (.func (.func 47) #[] #[p]) .nilFunc).run Try.prog w = .ok (.bool false) w := fun p w => by kernel_rfl
        have b5 := Boxed.new w4 29 (.slice none 0 0)
        have hg5 := (Below.heap_alloc w4 (.cells #[.slice none 0 0] 29) g3 (by omega)).trans hg3
        have hb5 : Below w.heap.size w (w4.alloc (.cells #[.slice none 0 0] 29)) := HB4.out.alloc HB4.out.size _
        have z5 : (w4.alloc (.cells #[.slice none 0 0] 29)).heap.size = g3 + 2 := by simp [z4]
        rw [z4] at b5
        generalize (w4.alloc (.cells #[.slice none 0 0] 29)) = w5 at b5 hg5 hb5 z5 ⊢
        have c5 : ∀ k (v : Value), #[Value.slice b nb cb, .int .i64 (N : Nat), .int .i64 (D : Nat)][k]? = some v → w5.cell? ⟨g3, k, none⟩ = some v := fun k v hv => (cell_of_row w5 g3 k _ _ _ hg5).trans hv
        have q0 := c5 0 _ rfl
        have q1 := c5 1 _ rfl
        have q2 := c5 2 _ rfl
        have HG5 := Lib.hid hg5
        have HB5 := Lib.hid hb5
        have HBX5 := Lib.hid b5
        clear hg5 hb5 b5 c5 hg3
        refine (wpIn_wide (n := 6)).1 ?_
        gi_wp2_with (refine ⟨trivial, ?_⟩; gi_at_call 13; refine (pall_in _ _ _ _ _ _ _).mono ?_; rintro e w' ⟨rfl, rfl⟩)
        have b6 := HBX5.out.alloc (.cells (pkCs b nb cb N D) 24)
        have hg6 := heap_alloc_new w5 (.cells (pkCs b nb cb N D) 24)
        have hb6 : Below w.heap.size w (w5.alloc (.cells (pkCs b nb cb N D) 24)) := HB5.out.alloc HB5.out.size _
        have z6 : (w5.alloc (.cells (pkCs b nb cb N D) 24)).heap.size = g3 + 3 := by simp [z5]
        rw [z5] at hg6
        generalize (w5.alloc (.cells (pkCs b nb cb N D) 24)) = W0 at b6 hg6 hb6 z6 ⊢
        have hL8 : N * D ≤ 8 * nb := by have := HBL.out; have := HLB.out; omega
        have hstops : SeqStopsK Fence.wide 5 Try.prog 47 #[.pointer (some ⟨g3 + 2, 0, none⟩)] (encP bs D) (KpP w (g3 + 2)) (fun ys => ys = List.range N) (fun pre => pre <+: List.range N) N W0 := by
          intro l J Jx W' hW' hA _ hY h0
          exact pall1_in 5 (by omega) l w b nb cb N D bs HSB.out HUB.out hd hNm hL8 (g3 + 2) J Jx hY (fun pre X X' hJ hg => hA _ X X' none hJ hg (fun r e => by cases e)) W' (by have := hW'.size; omega) (fun j hj => (hW'.block _ (by omega)).trans (hb6.block j hj)) ((hW'.block _ (by omega)).trans hg6) h0
        have HST := Lib.hid hstops
        obtain ⟨i0, hi, hz0, hz1, hz2⟩ := info_parts Try.infoU64
        have HIU := Lib.hid hi
        have HZ0 := Lib.hid hz0
        have HZ1 := Lib.hid hz1
        have HZ2 := Lib.hid hz2
        clear hi hz0 hz1 hz2 hstops q0 q1 q2 hg6 hL8
        rename_i Q1 K1 a1
        refine wpIn_rangeFunc_ownG (α := Nat) rfl (by omega) (gf := 47) (lb := #[.pointer (some ⟨g3 + 2, 0, none⟩)]) rfl trivial (enters_of Try.func47 (by kernel_rfl) rfl)
          HST.out (fun h k => fun j hj => (k j hj).trans (h j hj)) (fun X l o o' hl h1 h2 h3 => fun j hj => World.putObj_heap_other (by omega)) (Below.refl _ _) (fun _ => rfl)
          (fun pre X => PInv 29 35 (g3 + 3) (g3 + 1) bs D pre X ∧ Carry W0 (g3 + 1) X ∧ Below w.heap.size w X)
          (fun c pre X => False)
          (OwnFrom.and (Own.from (PInv.own _ _ _ _ _ _) _) (OwnFrom.and (carry_own _ _) (ownFrom_below (Nat.le_refl _) (by omega))))
          (fun c => ownFrom_pure _ (fun _ => False))
          ⟨⟨_, b6, World.ownsRow_nil _ _ _ _, trivial⟩, Carry.refl _ _, hb6⟩
          ?fr ?assign ?body ?done ?stop
        case assign =>
          intro l x X K hK
          unfold encP
          gi_wp2
          exact hK
        case body =>
          rintro l pre x X ⟨⟨v, hv, hrow, _⟩, hCa, hBX⟩ hlt
          obtain ⟨am, cp, rfl⟩ := ownsRow_slice hrow
          have hc := hv.cell
          have hszX := hBX.size
          have hszC := hCa.1
          have HROW := Lib.hid hrow
          have HV := Lib.hid hv
          have HCA := Lib.hid hCa
          have HBX := Lib.hid hBX
          clear hCa hBX hrow hv
          gi_wp2_with (gi_at_builtin; refine wpListIn_append_own _ rfl _ _ 29 rfl (g3 + 3) 35 i0 (.int .u64 0) 1 8 Try.underlying29 HIU.out HZ0.out HZ1.out HZ2.out rfl (by decide) _ _ _ rfl (HROW.out.alloc _) ⟨X.heap.size, 0, none⟩ 1 1 [.int .u64 (numT bs D x D : Nat)] rfl rfl (cell_one_new _ _ _) (by simp [Value.oneCell']) (by unfold maxLen; omega) (by omega) (by simp; omega) ?_; intro v' w1 hown' hgrow _; obtain ⟨g', cap', rfl⟩ := ownsRow_succ hown'; obtain ⟨hv1, hv2, hr2, hk2, hb2, _, hb3⟩ := boxed_app (n₁ := w.heap.size) HV.out (by decide) HROW.out (by omega) (by omega) (by omega) hown' hgrow; have hc1 := hv1.cell; have hf1 := hv1.frozen; (have HV2 := Lib.hid hv2); (have HR2 := Lib.hid hr2); (have HK2 := Lib.hid hk2); (have HB2 := Lib.hid hb2); (have HB3 := Lib.hid hb3); clear hv1 hv2 hr2 hk2 hb2 hb3 hown' hgrow)
          refine ⟨HK2.out.from _, (fun j hj => HB3.out j (by omega) (by omega) (by omega)), ⟨_, HV2.out, ?_, trivial⟩, ⟨Nat.le_trans hszC HK2.out.size, fun j hj hjB => (HB3.out j (by omega) (by omega) hjB).trans (HCA.out.2 j hj hjB)⟩, HBX.out.trans HB2.out⟩
          rw [numCs_snoc]
          simpa using HR2.out
        case done =>
          rintro Df ys X hDf rfl ⟨hI, hCa, hBX⟩ hK
          obtain ⟨v, hv, hrow, _⟩ := hI
          obtain ⟨zm, hzm⟩ : ∃ zm : List Int, zm = (List.range N).map (fun x => ((numT bs D x D : Nat) : Int)) := ⟨_, rfl⟩
          have hzl : zm.length = N := by rw [hzm]; simp
          have ow : Ow .u64 35 (g3 + 3) X v zm := by
            unfold Ow
            have : zm.map (Value.int .u64) = numCs bs D (List.range N) := by rw [hzm]; simp [numCs]
            rw [this, hzl]
            simpa using hrow
          have hzi : ∀ i, i < N → zm.getD i 0 = (numT bs D i D : Nat) := fun i hi => by rw [hzm]; simp [hi]
          have hzu : U64 zm := fun i hi => by
            rw [hzi i (by omega)]
            have := numT_lt bs D i D
            have : (2 : Nat) ^ D ≤ 2 ^ 64 := Nat.pow_le_pow_right (by omega) hd
            omega
          have hfitm := fit_anyW (zs := zm) (d := D) (fun i hi => by rw [hzi i (by omega)]; exact bw_le_of (numT_lt bs D i D))
          obtain ⟨am, cm, rfl, sm, _⟩ := ow.sl
          have hok : packOk zm (D : Nat) = true := by unfold packOk; rw [hfitm]; simp; omega
          have hpe : packErr zm (D : Nat) = 0 := by unfold packErr; rw [if_pos hok]
          have hpo : packOut zm (D : Nat) = bs := by
            unfold packOut
            rw [if_pos hok, Int.toNat_natCast, hzl, ← HBL.out]
            exact pack_num HUB.out (by omega) hd HBL.out ((pad_iff HUB.out HBL.out).1 HPAD.out) zm hzl hzi
          rw [hzl] at sm hv
          have hcv := hv.cell
          have szX := hBX.size
          have HSM := Lib.hid sm
          have HZU := Lib.hid hzu
          have HPE := Lib.hid hpe
          have HPO := Lib.hid hpo
          have HZL := Lib.hid hzl
          have HBX := Lib.hid hBX
          have HK := Lib.hid hK
          have HV := Lib.hid hv
          have hltD := lt_of_block hK
          have hvl := lt_of_block hv
          clear sm hzm ow hzi hzu hok hpe hpo hfitm hK hBX hv hrow hCa hzl
          refine a1 _ _ ?_
          refine wpIn_wide.2 ?_
          dsimp only
          go_upto_region 44 with (go_at_call 14; refine (pack_calls _ _ _ _ _ HSM.out HZU.out (D : Nat) (by omega)).mono ?_; rintro e w8 ⟨va, rfl, owa, b8⟩; rw [HPE.out]; rw [HPO.out] at owa; obtain ⟨aa, ca, rfl, sa, _⟩ := owa.sl; have z8 := b8.size; have hcv8 := cell_of_one ((b8.block _ hvl).trans HV.out))
          have szB := HBX.out.size
          have s8 := (HSB.out.keep HBX.out).keep b8
          have b9 : Below w.heap.size w w8 := HBX.out.trans (b8.mono szB)
          have k8 := (b8.block _ hltD).trans HK.out
          have LN : aa = aa := rfl
          have HB9 := Lib.hid b9
          have HK8 := Lib.hid k8
          have HS8 := Lib.hid s8
          have HSA := Lib.hid sa
          have hDw : w.heap.size ≤ Df := by omega
          have hsm := fun m => same_calls (w8.drewN m) aa bs.length ca bs b nb cb bs ((HSA.out).keep (below_drewN (Below.refl _ _) m)) ((HS8.out).keep (below_drewN (Below.refl _ _) m))
          have HSAME := Lib.hid hsm
          clear b8 b9 k8 s8 sa owa hsm LN
          go_wp2_with (go_at_call 16; refine (same_calls _ _ _ _ _ _ _ _ _ HSA.out HS8.out).mono ?_; rw [sameB_yes rfl]; rintro e w9 ⟨rfl, m9, rfl⟩)
          show LeavesInM Fence.wide 6 _ _ _ _ _ .returning _
          refine leaves1 (v := .bool true) (a := { tmps := _, defers := [{ target := .collected Df, args := #[] }] }) rfl HK8.out ((results_tmp rfl _ _ _).trans rfl) ⟨rfl, ?_⟩
          exact (below_drewN HB9.out m9).grown (grownBy_putObj' _ Df (.deferred none)) (by have := HB9.out.size; simpa using this) (fun k e => by cases e; exact hDw)
        case stop =>
          rintro Df c pre X hDf hSp hfalse hK
          exact hfalse.elim
      · obtain ⟨oe, hoe⟩ : ∃ oe, oe = opErr bs (N : Nat) (D : Nat) := ⟨_, rfl⟩
        rw [← hoe] at hop
        have eoe : (oe != 0) = true := by simp [hop]
        have hov : opVal bs b cb (N : Nat) (D : Nat) = .agg #[.slice none 0 0, .int .i64 0, .int .i64 0] := by unfold opVal; rw [if_neg (by rw [← hoe]; exact hop)]
        have HOE := Lib.hid hoe
        have HOV := Lib.hid hov
        clear hoe hov
        go_wp2_with (go_at_call 10; refine (popen_calls _ _ _ _ _ HSW.out HUB.out _ _).mono ?_; rw [HOV.out, ← HOE.out]; rintro e w3 ⟨rfl, b3⟩)
        show LeavesInM Fence.wide 6 _ _ _ _ _ .returning _
        have zw3 := b3.size
        exact ⟨_, (results_tmp rfl _ _ _).trans rfl, rfl, (HBW.out.trans (b3.mono hzw)).alloc (by omega) _⟩
end Go.Proofs.Ytgkbkkhlnidigaa
