/- Open of any bytes. -/
import Derived.Test.YtjgcmnppiaikcaaDoorDkW
import Derived.Test.YtjgcmnppiaikcaaDoorHeD
import Derived.Test.YtjgcmnppiaikcaaDoorDkQ
set_option linter.unusedVariables false
set_option linter.unusedSimpArgs false
namespace Go.Tk
open Go
theorem wadd {a b : Nat} (ha : a ≤ 1000000) (hb : b ≤ 67108864) : IntKind.i64.wrap ((a : Int) + (b : Int)) = ((a + b : Nat) : Int) := by rw [IntKind.wrap_i64]; omega
end Go.Tk
namespace Go.Proofs.YtjgcmnppiaikcaaDoor
open Go.RowKit Go.Tk
theorem hd4_le {b : List UInt8} (h : ShOk b) : hd4 b ≤ 1000000 := by
  have h3 := hd3_le b
  have hP : (hdN b + 15) / 16 * hdW b ≤ 262144 * 27 := Nat.mul_le_mul (by have := h.aN; omega) h.wN
  unfold hd4
  generalize (hdN b + 15) / 16 * hdW b = P at hP ⊢
  omega
theorem leq_bytes (a b : List UInt8) : (ltB a b || a == b) = !ltB b a := by
  cases h : ltB b a with
  | true =>
    have h2 := ltB_anti h
    have : a ≠ b := fun e => by subst e; rw [ltB_self] at h; cases h
    rw [h2]; simp [this]
  | false =>
    cases h2 : ltB a b with
    | true => rfl
    | false => simp [ltB_tri h2 h]
theorem run_leqS (a b : ByteArray) (P : Program) (w : World) (r : Bool) (h : ltB b.data.toList a.data.toList = r) : (Op.stringOp .leq a b).run P w = .ok (.bool (!r)) w := by
  subst h
  have h2 := leq_bytes a.data.toList b.data.toList
  unfold ltB at h2 ⊢
  rw [← h2]
  have e : (a.toList == b.toList) = (a.data.toList == b.data.toList) := by rw [Lib.toList_data, Lib.toList_data]
  simp [Op.stringOp, Lib.toList_data, go_sem]
theorem run_leqD (t : TypeId) (a b : ByteArray) (P : Program) (w : World) (r : Bool) (h : ltB b.data.toList a.data.toList = r) : (binOp .leq t (.string a) (.string b)).run P w = .ok (.bool (!r)) w := by
  have := run_leqS a b P w r h
  simpa [binOp] using this
/-- The first number of an entry that is one lies within the text ahead of it. -/
theorem ent_sh {eb : List UInt8} {p : Int} {last : List UInt8} (h : (entP eb p false last).2.2 = 0) : 0 ≤ (upS (nums (eb.drop p.toNat)) 0 0 mxU).1 ∧ (upS (nums (eb.drop p.toNat)) 0 0 mxU).1 ≤ last.length := by
  have hr := (ups_range (nums (eb.drop p.toNat)) 0 0 (Nat.zero_le _)).1.1
  refine ⟨hr, ?_⟩
  unfold entP at h
  split at h
  · simp at h
  · simp only [Bool.false_eq_true, if_false] at h
    split at h
    · rename_i h1; exact absurd h h1
    split at h
    · rename_i h1 h2; exact absurd h h2
    split at h
    · simp at h
    · rename_i h3; omega
/-- What Open hands back, by an error and its place. -/
def OpR (w : World) (N wd : Nat) (pz : List Int) (eb : List UInt8) (er : Int × Nat) (e : Ending) (w' : World) : Prop :=
  Below w.heap.size w w' ∧ ((er.1 ≠ 0 ∧ ∃ v, e = .returned (.tuple #[.pointer none, v]) ∧ EV w' v er.2 er.1) ∨
    (er.1 = 0 ∧ ∃ gd pa pc ea ec, w.heap.size ≤ gd ∧ e = .returned (.tuple #[.pointer (some ⟨gd, 0, none⟩), .nilIface]) ∧ DictM w' gd N wd pa pc pz ea ec (nums eb)))
theorem OpR.no {w w' : World} {N wd : Nat} {pz : List Int} {eb : List UInt8} {x : Int} {p b9 : Nat} (h : x ≠ 0) (hb : Below w.heap.size w w') (h9 : w'.heap[b9]? = some (.cells #[.int .i64 (p : Nat), .iface 45 (.int .i64 x)] 68 (0, 0))) :
    OpR w N wd pz eb (x, p) (.returned (.tuple #[.pointer none, .iface 64 (.pointer (some ⟨b9, 0, none⟩))])) w' := ⟨hb, .inl ⟨h, _, rfl, .inr ⟨b9, h, rfl, h9⟩⟩⟩
set_option maxRecDepth 100000 in
set_option maxHeartbeats 4000000 in
theorem open_yes (w : World) (a : Option Addr) (c : Nat) (b : List UInt8) (hs : SlI .u8 w a b.length c (nums b)) (hn : a = none → c = 0) (ha : ∀ x, a = some x → x.block < w.heap.size) (he : (shE b).1 = 0) :
    Calls Tryd.prog 5 #[.slice a b.length c] w (OpenD w b (opE b)) := by
  have hsh := shape_calls w a c b hs hn ha
  have hok := (sh_ok he).1
  have h4b := hd4_le hok
  have hel : (hdE b).length = hdS b := by unfold hdE; rw [List.length_take, List.length_drop, hok.len]; omega
  have hsz := hok.bS
  rw [← hel] at hsz
  have hNN := hok.aN
  have hWN := hok.wN
  obtain ⟨oe, hoe⟩ : ∃ oe, oe = opErr (nums (hdP b)) ((hdN b + 15) / 16 : Nat) (hdW b : Nat) := ⟨_, rfl⟩
  obtain ⟨lo, hlo⟩ : ∃ lo, lo = opL (hdE b) (nums (hdP b)) (hdW b) (hdN b) (hdN b) 0 0 [] := ⟨_, rfl⟩
  have hopE : opE b = if oe ≠ 0 then (oe, hd4 b - 1) else if lo.1 ≠ 0 then (lo.1, hd4 b + lo.2) else (0, 0) := by
    unfold opE; rw [if_neg (by simp [he]), ← hoe, ← hlo]
  have H2 : Hid (Calls Tryd.prog 11 #[.slice a b.length c] w fun e w' => ∃ gd pa pc ea ec, e = .returned (.tuple #[.pointer (some ⟨gd, 0, none⟩), .int .i64 (hd3 b : Nat), .int .i64 (hd4 b : Nat), .nilIface]) ∧ Below w.heap.size w w' ∧ w.heap.size ≤ gd ∧ DictM w' gd (hdN b) (hdW b) pa pc (nums (hdP b)) ea ec (nums (hdE b))) := Lib.hid (hsh.mono fun e w' ⟨hb, h⟩ => by
    rcases h with ⟨h0, _⟩ | ⟨_, gd, pa, pc, ea, ec, h1, h2, h3⟩
    · exact absurd he h0
    · exact ⟨gd, pa, pc, ea, ec, h2, hb, h1, h3⟩)
  show Calls _ _ _ _ (OpR w (hdN b) (hdW b) (nums (hdP b)) (hdE b) (opE b))
  obtain ⟨er, her⟩ : ∃ er, er = opE b := ⟨_, rfl⟩
  rw [← her]
  rw [hopE] at her
  obtain ⟨T3, hT3⟩ : ∃ T3, T3 = hd3 b := ⟨_, rfl⟩
  have hpos : 2 ≤ hd3 b := hd3_ge hok
  have h34 : hd3 b ≤ hd4 b := by unfold hd4; omega
  generalize hd4 b = F at h4b h34 H2 her ⊢
  have hHP : (nums (hdP b)).length = ((hdN b + 15) / 16 * hdW b + 7) / 8 ∨ True := .inr trivial
  have hPU : U8 (nums (hdP b)) := fun i hi => by
    have := nums_u8 (hdP b) ((nums (hdP b)).getD i 0) (by simp [hi])
    exact this
  generalize nums (hdP b) = pz at hoe hlo H2 hPU ⊢
  generalize hdE b = eb at hlo H2 hsz hel ⊢
  generalize hdN b = N at hoe hlo H2 hNN ⊢
  generalize hdW b = wd at hoe hlo H2 hWN ⊢
  rw [← hT3] at H2 hpos h34
  have HOE := Lib.hid hoe
  have HER := Lib.hid her
  clear her
  have HLO := Lib.hid hlo
  clear hsh hs hn ha he hok hoe hlo hopE hel hT3 hHP
  have hF1 : IntKind.i64.wrap ((F : Int) - 1) = ((F - 1 : Nat) : Int) := by rw [IntKind.wrap_i64]; omega
  go_enter Tryd.func5, Tryd.ntmps5
  go_upto_region 4 with (go_at_call 11; (with_reducible refine H2.out.mono ?_); rintro e w1 ⟨gd, pa, pc, ea, ec, rfl, hb, hgd, hd⟩; (have HB := Lib.hid hb); (have HD := Lib.hid hd); clear hb hd)
  obtain ⟨R, hR⟩ : ∃ R, R = (N + 15) / 16 := ⟨_, rfl⟩
  have hbq : ∀ W, Below w1.heap.size w1 W → Calls Tryd.prog 13 #[.int .i64 (N : Nat)] W fun e w' => e = .returned (.int .i64 (R : Nat)) ∧ Below w1.heap.size w1 w' := fun W hW => by
    rw [hR]; exact (blocksQ W N hNN).mono fun e w' ⟨h1, h2⟩ => ⟨h1, by rw [← h2]; exact hW⟩
  have hpo : ∀ W, Below w1.heap.size w1 W → Calls Tryd.prog 12 #[.slice pa pz.length pc, .int .i64 (R : Nat), .int .i64 (wd : Nat)] W fun e w' => e = .returned (.tuple #[opVal pz pa pc (R : Nat) (wd : Nat), .int .i64 oe]) ∧ Below w1.heap.size w1 w' := fun W hW => by
    have := popen_calls W pa pz.length pc pz (HD.out.keep hW).ps hPU (R : Nat) (wd : Nat)
    rw [hR, ← HOE.out] at this
    rw [hR]
    exact this.mono fun e w' ⟨h1, h2⟩ => ⟨h1, hW.trans (h2.mono hW.size)⟩
  obtain ⟨qa, ql, qc, qi, qj, hov⟩ : ∃ qa ql qc qi qj, opVal pz pa pc (R : Nat) (wd : Nat) = .agg #[(.slice qa ql qc), (.int .i64 qi), (.int .i64 qj)] := by
    unfold opVal; split
    · exact ⟨_, _, _, _, _, rfl⟩
    · exact ⟨_, _, _, _, _, rfl⟩
  rw [hov] at hpo
  have hbq2 : ∀ W, Calls Tryd.prog 13 #[.int .i64 (N : Nat)] W fun e w' => e = .returned (.int .i64 (R : Nat)) ∧ W = w' := fun W => by
    rw [hR]; exact blocksQ W N hNN
  have hpo2 : ∀ W, Below w1.heap.size w1 W → Calls Tryd.prog 12 #[.slice pa pz.length pc, .int .i64 (R : Nat), .int .i64 (wd : Nat)] W fun e w' => e = .returned (.tuple #[.agg #[(.slice qa ql qc), (.int .i64 qi), (.int .i64 qj)], .int .i64 oe]) ∧ Below W.heap.size W w' := fun W hW => by
    have := popen_calls W pa pz.length pc pz (HD.out.keep hW).ps hPU (R : Nat) (wd : Nat)
    rw [hR, ← HOE.out, ← hR, hov] at this
    exact this
  have HBQ2 := Lib.hid hbq2
  have HPO2 := Lib.hid hpo2
  have HBQ := Lib.hid hbq
  have HPO := Lib.hid hpo
  have HRR := Lib.hid hR
  clear hbq hpo hbq2 hpo2 hov hR
  have HW1 := Lib.hid HB.out.size
  rename_i Q1 K1 a1
  have after : ∀ (g : Nat) (W : World), Below w1.heap.size w1 W → K1 { tmps := #[.slice a b.length c, undef, .pointer none, .nilIface, .pointer (some ⟨gd, 0, none⟩), .int .i64 (T3 : Nat), .int .i64 (F : Nat), .nilIface, .pointer (some ⟨g, 0, none⟩), .int .i64 oe, undef, undef, undef, undef, undef, undef, .tuple #[.pointer (some ⟨gd, 0, none⟩), .int .i64 (T3 : Nat), .int .i64 (F : Nat), .nilIface], .slice a b.length c, .tuple #[.pointer (some ⟨gd, 0, none⟩), .int .i64 (T3 : Nat), .int .i64 (F : Nat), .nilIface], .pointer (some ⟨gd, 0, none⟩), .int .i64 (T3 : Nat), .int .i64 (F : Nat), .nilIface, .nilIface, .bool false, undef, .tuple #[.agg #[(.slice qa ql qc), (.int .i64 qi), (.int .i64 qj)], .int .i64 oe], .pointer (some ⟨gd, 0, none⟩), .pointer (some ⟨gd, 0, none⟩), .pointer (some ⟨gd, 2, none⟩), .slice pa pz.length pc, .pointer (some ⟨gd, 0, none⟩), .pointer (some ⟨gd, 0, none⟩), .pointer (some ⟨gd, 0, none⟩), .int .i64 (N : Nat), .int .i64 (R : Nat), .pointer (some ⟨gd, 0, none⟩), .pointer (some ⟨gd, 0, none⟩), .pointer (some ⟨gd, 1, none⟩), .int .i64 (wd : Nat), .tuple #[.agg #[(.slice qa ql qc), (.int .i64 qi), (.int .i64 qj)], .int .i64 oe], .agg #[(.slice qa ql qc), (.int .i64 qi), (.int .i64 qj)], .int .i64 oe, undef, undef, undef, undef, undef, undef, undef, undef, undef, undef, undef, undef, undef, undef, undef, undef, undef, undef, undef, undef, undef, undef, undef, undef, undef, undef, undef, undef, undef, undef, undef, undef, undef, undef, undef, undef, undef, undef, undef, undef, undef, undef, undef, undef, undef, undef, undef, undef, undef, undef, undef, undef, undef, undef, undef, undef, undef, undef, undef, undef, undef, undef, undef, undef, undef, undef, undef, undef, undef, undef, undef, undef, undef, undef, undef, undef, undef, undef, undef, undef, undef, undef, undef, undef, undef, undef, undef, undef, undef, undef, undef, undef, undef, undef, undef, undef, undef, undef], defers := [] } W := by
    intro g W hW
    refine a1 _ _ ?_
    have HDW := Lib.hid (HD.out.keep hW)
    have HBW := Lib.hid (HB.out.trans (hW.mono HB.out.size))
    clear hW
    clear HBQ HPO HBQ2 HPO2
    clear a1
    have hlt2 := hgd
    by_cases hoe : oe = 0
    rotate_left
    · have ee : (oe != 0) = true := by simp [hoe]
      have hE : er = (oe, F - 1) := by rw [HER.out, if_pos hoe]
      have HE := Lib.hid hE
      have HNE := Lib.hid hoe
      clear hE hoe
      go_wp2_with (first | (go_at_call 14; (with_reducible refine (wrong_calls _ _ _).mono ?_); rintro e w9 ⟨b9, rfl, hb9, hr9, hbe9⟩; (have HR9 := Lib.hid hr9); (have HBE9 := Lib.hid hbe9); clear hr9 hbe9))
      go_ret2
      rw [HE.out]
      exact OpR.no HNE.out (HBW.out.trans (HBE9.out.mono HBW.out.size)) HR9.out
    subst hoe
    have hE : er = if lo.1 ≠ 0 then (lo.1, F + lo.2) else (0, 0) := by rw [HER.out, if_neg (by simp)]
    have HE := Lib.hid hE
    have k0 := HDW.out.c0
    clear hE HOE HER
    go_wp2
    go_loopw [10, 11, 53] (fun s10 s11 s53 wr => ∃ (i p : Nat) (last : ByteArray), s10 = .int .i64 (p : Nat) ∧ s11 = .string last ∧ s53 = .int .i64 (i : Nat) ∧ i ≤ N ∧ p ≤ eb.length ∧ last.size ≤ 262144 ∧ lo = opL eb pz wd N (N - i) i p last.data.toList ∧ Below W.heap.size W wr) (fun _ _ s53 _ => N - (intOf s53).toNat)
    case atStart => exact ⟨0, 0, ⟨#[]⟩, rfl, rfl, rfl, Nat.zero_le _, Nat.zero_le _, by decide, HLO.out, Below.refl _ _⟩
    case round =>
      obtain ⟨i, p, last, rfl, rfl, rfl, hi, hp, hla, hlo, hb⟩ := hrel
      have hDr := HDW.out.keep hb
      have hBr := HBW.out.trans (hb.mono HBW.out.size)
      have HLR := Lib.hid hlo
      have HBR := Lib.hid hBr
      have HDR := Lib.hid hDr
      have hzr := hBr.size
      have HRB := Lib.hid hb
      clear hlo hBr hb
      have hFp : (F : Int) + (p : Int) = ((F + p : Nat) : Int) := by omega
      have HFP := Lib.hid hFp
      clear hFp
      by_cases hlt : i < N
      rotate_left
      · obtain rfl : i = N := by omega
        have c3 := hDr.c3
        rw [nums_len] at c3
        have hlo2 : lo = if p < eb.length then (13, p) else (0, 0) := by rw [HLR.out, Nat.sub_self]; rfl
        clear hDr
        by_cases hpl : p < eb.length
        · have e1 : decide ((p : Int) < (eb.length : Int)) = true := decide_eq_true (by omega)
          have e1' : decide (p < eb.length) = true := decide_eq_true hpl
          have hE2 : er = (13, F + p) := by rw [HE.out, hlo2, if_pos hpl, if_pos (by simp)]
          have HE2 := Lib.hid hE2
          clear hlo2 hE2 hpl
          go_wp2_with (first | (go_at_call 14; (with_reducible refine (wrong_calls _ _ _).mono ?_); rintro e w9 ⟨b9, rfl, hb9, hr9, hbe9⟩; (have HR9 := Lib.hid hr9); (have HBE9 := Lib.hid hbe9); clear hr9 hbe9))
          go_ret2
          rw [HE2.out]
          exact OpR.no (by simp) (HBR.out.trans (HBE9.out.mono hzr)) (by rw [← HFP.out]; exact HR9.out)
        · have e1 : decide ((p : Int) < (eb.length : Int)) = false := decide_eq_false (by omega)
          have e1' : decide (p < eb.length) = false := decide_eq_false hpl
          have hE2 : er = (0, 0) := by rw [HE.out, hlo2, if_neg hpl, if_neg (by simp)]
          have HE2 := Lib.hid hE2
          clear hlo2 hE2 hpl
          go_wp2
          go_ret2
          rw [HE2.out]
          exact ⟨HBR.out, .inr ⟨rfl, gd, pa, pc, ea, ec, hlt2, rfl, HDR.out⟩⟩
      clear hDr
      have hlx : last.data.toList.length ≤ 262144 := by rw [← Lib.size_eq]; exact hla
      have hstep : lo = if i % 16 = 0 ∧ numT pz wd (i / 16) wd ≠ p then (161, p) else
          if (entP eb (p : Nat) (decide (i % 16 = 0)) last.data.toList).2.2 ≠ 0 then ((entP eb (p : Nat) (decide (i % 16 = 0)) last.data.toList).2.2, p) else
          if 0 < i ∧ ltB last.data.toList (entP eb (p : Nat) (decide (i % 16 = 0)) last.data.toList).1 = false then (160, p) else
          if i % 16 ≠ 0 ∧ (upS (nums (eb.drop p)) 0 0 mxU).1 ≠ (comN last.data.toList (entP eb (p : Nat) (decide (i % 16 = 0)) last.data.toList).1 : Nat) then (161, p) else
          opL eb pz wd N (N - (i + 1)) (i + 1) (entP eb (p : Nat) (decide (i % 16 = 0)) last.data.toList).2.1.toNat (entP eb (p : Nat) (decide (i % 16 = 0)) last.data.toList).1 := by
        rw [HLR.out, show N - i = (N - (i + 1)) + 1 by omega]
        rfl
      obtain ⟨ff, hff⟩ : ∃ ff : Bool, ff = decide (i % 16 = 0) := ⟨_, rfl⟩
      have hmod : ((i : Int) % 16 == 0) = ff := by
        rw [hff]
        by_cases h : i % 16 = 0
        · rw [decide_eq_true h]; simp; omega
        · rw [decide_eq_false h]; simp; omega
      rw [← hff] at hstep
      have hent := entry_calls wr gd N wd pa pc pz ea ec eb HDR.out (p : Nat) ⟨by omega, by omega⟩ ff last hla
      have hDE : ∀ X, Below wr.heap.size wr X → Calls Tryd.prog 16 #[.pointer (some ⟨gd, 0, none⟩), .int .i64 (p : Nat), .bool ff, .string last] X fun e w' =>
          e = .returned (.tuple #[.string ⟨(entP eb (p : Nat) ff last.data.toList).1.toArray⟩, .int .i64 (entP eb (p : Nat) ff last.data.toList).2.1, .int .i64 (entP eb (p : Nat) ff last.data.toList).2.2]) ∧ Below wr.heap.size wr w' := fun X hX =>
        (entry_calls X gd N wd pa pc pz ea ec eb (HDR.out.keep hX) (p : Nat) ⟨by omega, by omega⟩ ff last hla).mono fun e w' ⟨h1, h2⟩ => ⟨h1, hX.trans (h2.mono hX.size)⟩
      clear hent
      obtain ⟨en, hen⟩ : ∃ en, en = entP eb (p : Nat) ff last.data.toList := ⟨_, rfl⟩
      rw [← hen] at hstep hDE
      have hok : en.2.2 = 0 → en.1.length ≤ 262144 ∧ 0 ≤ en.2.1 ∧ en.2.1 ≤ eb.length := fun h0 => by
        have := ent_ok (s := en.1) (nx := en.2.1) (by rw [← hen, ← h0])
        exact ⟨this.1, this.2.1, this.2.2.1⟩
      obtain ⟨s, nx, ec2⟩ := en
      simp only at hstep hDE hok
      obtain ⟨sB, hsB⟩ : ∃ sB : ByteArray, sB = ⟨s.toArray⟩ := ⟨_, rfl⟩
      have hsd : sB.data.toList = s := by rw [hsB]
      have hsl : sB.size = s.length := by rw [Lib.size_eq, hsd]
      rw [← hsB] at hDE
      have HST := Lib.hid hstep
      have HOK := Lib.hid hok
      have HSD := Lib.hid hsd
      have HSL := Lib.hid hsl
      have HDE := Lib.hid hDE
      have HFF := Lib.hid hff
      clear hstep hok hsd hsl hDE hff hsB
      have HEN := Lib.hid hen
      clear hen
      have hiN : i < 4194304 := by omega
      by_cases hm : i % 16 = 0
      · obtain rfl : ff = true := by rw [HFF.out]; exact decide_eq_true hm
        obtain ⟨pv, hpve⟩ : ∃ pv, pv = numT pz wd (i / 16) wd := ⟨_, rfl⟩
        have hdv : (i : Int) / 16 = ((i / 16 : Nat) : Int) := by omega
        have hpl : Calls Tryd.prog 15 #[.pointer (some ⟨gd, 0, none⟩), .int .i64 ((i : Int) / 16)] wr fun e w' => e = .returned (.int .i64 (pv : Nat)) ∧ Below wr.heap.size wr w' := by
          rw [hdv, hpve]; exact place_calls wr gd N wd pa pc pz ea ec (nums eb) HDR.out (i / 16) (by omega)
        have HPL := Lib.hid hpl
        have hstp := HST.out
        rw [← hpve] at hstp
        have HST := Lib.hid hstp
        clear hpl hdv hpve hstp
        by_cases hpv : pv = p
        rotate_left
        · have hne2 : ((pv : Int) != (p : Int)) = true := by simp; omega
          have hne : (161 : Int) ≠ 0 := by decide
          have hE2 : er = (161, F + p) := by rw [HE.out, show lo = (161, p) from by rw [HST.out, if_pos ⟨hm, hpv⟩]]; exact if_pos hne
          have HE2 := Lib.hid hE2
          clear hE2
          go_wp2_with (first | (go_at_call 15; (with_reducible refine HPL.out.mono ?_); rintro e w4 ⟨rfl, hb4⟩; (have HX := Lib.hid hb4); clear hb4) | (go_at_call 14; (with_reducible refine (wrong_calls _ _ _).mono ?_); rintro e w9 ⟨b9, rfl, hb9, hr9, hbe9⟩; (have HR9 := Lib.hid hr9); (have HBE9 := Lib.hid hbe9); clear hr9 hbe9))
          go_ret2
          rw [HE2.out]
          exact OpR.no hne ((HBR.out.trans (HX.out.mono hzr)).trans (HBE9.out.mono (HBR.out.trans (HX.out.mono hzr)).size)) (by rw [← HFP.out]; exact HR9.out)
        · have hq9 := hpv.symm
          subst hq9
          go_upto_region 13 with (go_at_call 15; (with_reducible refine HPL.out.mono ?_); rintro e w4 ⟨rfl, hb4⟩; (have HX := Lib.hid hb4); clear hb4)
          go_upto_region 14 with (go_at_call 16; (with_reducible refine (HDE.out _ HX.out).mono ?_); rintro e w5 ⟨rfl, hb5⟩; (have HX5 := Lib.hid hb5); clear hb5)
          have HBZ := Lib.hid (HBR.out.trans (HX5.out.mono hzr))
          have hst1 : lo = if ec2 ≠ 0 then (ec2, p) else if 0 < i ∧ ltB last.data.toList s = false then (160, p) else if i % 16 ≠ 0 ∧ (upS (nums (eb.drop p)) 0 0 mxU).1 ≠ (comN last.data.toList s : Nat) then (161, p) else opL eb pz wd N (N - (i + 1)) (i + 1) nx.toNat s := by rw [HST.out, if_neg (by simp)]
          have HS1 := Lib.hid hst1
          clear hst1
          by_cases hec : ec2 = 0
          rotate_left
          · have ee : (ec2 == 0) = false := by simp [hec]
            have ee2 : (ec2 != 0) = true := by simp [hec]
            have hne : ec2 ≠ 0 := hec
            have hE2 : er = (ec2, F + p) := by rw [HE.out, show lo = (ec2, p) from by rw [HS1.out, if_pos hec]]; exact if_pos (hne)
            have HE2 := Lib.hid hE2
            clear hE2 hec
            go_wp2_with (first | (go_at_call 14; (with_reducible refine (wrong_calls _ _ _).mono ?_); rintro e w9 ⟨b9, rfl, hb9, hr9, hbe9⟩; (have HR9 := Lib.hid hr9); (have HBE9 := Lib.hid hbe9); clear hr9 hbe9))
            go_ret2
            rw [HE2.out]
            exact OpR.no hne (HBZ.out.trans (HBE9.out.mono HBZ.out.size)) (by rw [← HFP.out]; exact HR9.out)
          subst hec
          have hok := HOK.out rfl
          have hs3 : decide ((262144 : Int) < (sB.size : Int)) = false := decide_eq_false (by have := HSL.out; omega)
          have hs4 : decide (262144 < sB.size) = false := decide_eq_false (by have := HSL.out; omega)
          obtain ⟨x, hx⟩ : ∃ x : Nat, nx = (x : Int) := ⟨nx.toNat, by omega⟩
          subst hx
          have hxe : x ≤ eb.length := by omega
          have hsB2 : sB.size ≤ 262144 := by have := HSL.out; omega
          clear hok
          obtain ⟨lt, hlt9⟩ : ∃ lt, lt = ltB last.data.toList s := ⟨_, rfl⟩
          have hle1 : ∀ X, (binOp .leq 9 (.string sB) (.string last)).run Tryd.prog X = .ok (.bool (!lt)) X := fun X => run_leqD _ _ _ _ _ _ (by rw [HSD.out, hlt9])
          have hle2 : ∀ X, (Op.stringOp .leq sB last).run Tryd.prog X = .ok (.bool (!lt)) X := fun X => run_leqS _ _ _ _ _ (by rw [HSD.out, hlt9])
          have HLT9 := Lib.hid hlt9
          clear hlt9
          have hst2 : lo = if 0 < i ∧ lt = false then (160, p) else if i % 16 ≠ 0 ∧ (upS (nums (eb.drop p)) 0 0 mxU).1 ≠ (comN last.data.toList s : Nat) then (161, p) else opL eb pz wd N (N - (i + 1)) (i + 1) x s := by rw [HS1.out, if_neg (by simp), HLT9.out, Int.toNat_natCast]
          have HS2 := Lib.hid hst2
          clear hst2
          by_cases hbad : 0 < i ∧ lt = false
          · have hi0 : decide ((0 : Int) < (i : Int)) = true := decide_eq_true (by omega)
            have hi1 : decide (0 < i) = true := decide_eq_true hbad.1
            obtain ⟨hb1, rfl⟩ := hbad
            have hne : (160 : Int) ≠ 0 := by decide
            have hE2 : er = (160, F + p) := by rw [HE.out, show lo = (160, p) from by rw [HS2.out, if_pos ⟨hb1, rfl⟩]]; exact if_pos (hne)
            have HE2 := Lib.hid hE2
            clear hE2 
            go_wp2_with (first | (go_at_call 14; (with_reducible refine (wrong_calls _ _ _).mono ?_); rintro e w9 ⟨b9, rfl, hb9, hr9, hbe9⟩; (have HR9 := Lib.hid hr9); (have HBE9 := Lib.hid hbe9); clear hr9 hbe9))
            go_ret2
            rw [HE2.out]
            exact OpR.no hne (HBZ.out.trans (HBE9.out.mono HBZ.out.size)) (by rw [← HFP.out]; exact HR9.out)
          have hst3 : lo = if i % 16 ≠ 0 ∧ (upS (nums (eb.drop p)) 0 0 mxU).1 ≠ (comN last.data.toList s : Nat) then (161, p) else opL eb pz wd N (N - (i + 1)) (i + 1) x s := by rw [HS2.out, if_neg hbad]
          have HS3 := Lib.hid hst3
          clear hst3
          have hN : lo = opL eb pz wd N (N - (i + 1)) (i + 1) x s := by rw [HS3.out, if_neg (by simp [hm])]
          have HN := Lib.hid hN
          have hz1 : decide ((0 : Int) < (i : Int) % 16) = false := decide_eq_false (by omega)
          have HY := HX5
          clear hN
          by_cases hi9 : 0 < i
          · have hi0 : decide ((0 : Int) < (i : Int)) = true := decide_eq_true (by omega)
            have hi1 : decide (0 < i) = true := decide_eq_true hi9
            obtain rfl : lt = true := by cases lt with
              | true => rfl
              | false => exact absurd ⟨hi9, rfl⟩ hbad
            clear hbad
            go_wp2
            go_roundw
            case rel => exact ⟨i + 1, x, sB, rfl, rfl, by go_num, by omega, hxe, hsB2, by rw [HSD.out]; exact HN.out, HRB.out.trans ((HY.out).mono HRB.out.size)⟩
            case measure => simp [intOf]; omega
          · have hi0 : decide ((0 : Int) < (i : Int)) = false := decide_eq_false (by omega)
            have hi1 : decide (0 < i) = false := decide_eq_false hi9
            clear hbad
            go_wp2
            go_roundw
            case rel => exact ⟨i + 1, x, sB, rfl, rfl, by go_num, by omega, hxe, hsB2, by rw [HSD.out]; exact HN.out, HRB.out.trans ((HY.out).mono HRB.out.size)⟩
            case measure => simp [intOf]; omega
      · obtain rfl : ff = false := by rw [HFF.out]; exact decide_eq_false hm
        have HX := Lib.hid (Below.refl wr.heap.size wr)
        go_upto_region 13 with fail
        go_upto_region 14 with (go_at_call 16; (with_reducible refine (HDE.out _ HX.out).mono ?_); rintro e w5 ⟨rfl, hb5⟩; (have HX5 := Lib.hid hb5); clear hb5)
        have HBZ := Lib.hid (HBR.out.trans (HX5.out.mono hzr))
        have hst1 : lo = if ec2 ≠ 0 then (ec2, p) else if 0 < i ∧ ltB last.data.toList s = false then (160, p) else if i % 16 ≠ 0 ∧ (upS (nums (eb.drop p)) 0 0 mxU).1 ≠ (comN last.data.toList s : Nat) then (161, p) else opL eb pz wd N (N - (i + 1)) (i + 1) nx.toNat s := by rw [HST.out, if_neg (by simp [hm])]
        have HS1 := Lib.hid hst1
        clear hst1
        by_cases hec : ec2 = 0
        rotate_left
        · have ee : (ec2 == 0) = false := by simp [hec]
          have ee2 : (ec2 != 0) = true := by simp [hec]
          have hne : ec2 ≠ 0 := hec
          have hE2 : er = (ec2, F + p) := by rw [HE.out, show lo = (ec2, p) from by rw [HS1.out, if_pos hec]]; exact if_pos (hne)
          have HE2 := Lib.hid hE2
          clear hE2 hec
          go_wp2_with (first | (go_at_call 14; (with_reducible refine (wrong_calls _ _ _).mono ?_); rintro e w9 ⟨b9, rfl, hb9, hr9, hbe9⟩; (have HR9 := Lib.hid hr9); (have HBE9 := Lib.hid hbe9); clear hr9 hbe9))
          go_ret2
          rw [HE2.out]
          exact OpR.no hne (HBZ.out.trans (HBE9.out.mono HBZ.out.size)) (by rw [← HFP.out]; exact HR9.out)
        subst hec
        have hok := HOK.out rfl
        have hs3 : decide ((262144 : Int) < (sB.size : Int)) = false := decide_eq_false (by have := HSL.out; omega)
        have hs4 : decide (262144 < sB.size) = false := decide_eq_false (by have := HSL.out; omega)
        obtain ⟨x, hx⟩ : ∃ x : Nat, nx = (x : Int) := ⟨nx.toNat, by omega⟩
        subst hx
        have hxe : x ≤ eb.length := by omega
        have hsB2 : sB.size ≤ 262144 := by have := HSL.out; omega
        clear hok
        obtain ⟨lt, hlt9⟩ : ∃ lt, lt = ltB last.data.toList s := ⟨_, rfl⟩
        have hle1 : ∀ X, (binOp .leq 9 (.string sB) (.string last)).run Tryd.prog X = .ok (.bool (!lt)) X := fun X => run_leqD _ _ _ _ _ _ (by rw [HSD.out, hlt9])
        have hle2 : ∀ X, (Op.stringOp .leq sB last).run Tryd.prog X = .ok (.bool (!lt)) X := fun X => run_leqS _ _ _ _ _ (by rw [HSD.out, hlt9])
        have HLT9 := Lib.hid hlt9
        clear hlt9
        have hst2 : lo = if 0 < i ∧ lt = false then (160, p) else if i % 16 ≠ 0 ∧ (upS (nums (eb.drop p)) 0 0 mxU).1 ≠ (comN last.data.toList s : Nat) then (161, p) else opL eb pz wd N (N - (i + 1)) (i + 1) x s := by rw [HS1.out, if_neg (by simp), HLT9.out, Int.toNat_natCast]
        have HS2 := Lib.hid hst2
        clear hst2
        by_cases hbad : 0 < i ∧ lt = false
        · have hi0 : decide ((0 : Int) < (i : Int)) = true := decide_eq_true (by omega)
          have hi1 : decide (0 < i) = true := decide_eq_true hbad.1
          obtain ⟨hb1, rfl⟩ := hbad
          have hne : (160 : Int) ≠ 0 := by decide
          have hE2 : er = (160, F + p) := by rw [HE.out, show lo = (160, p) from by rw [HS2.out, if_pos ⟨hb1, rfl⟩]]; exact if_pos (hne)
          have HE2 := Lib.hid hE2
          clear hE2 
          go_wp2_with (first | (go_at_call 14; (with_reducible refine (wrong_calls _ _ _).mono ?_); rintro e w9 ⟨b9, rfl, hb9, hr9, hbe9⟩; (have HR9 := Lib.hid hr9); (have HBE9 := Lib.hid hbe9); clear hr9 hbe9))
          go_ret2
          rw [HE2.out]
          exact OpR.no hne (HBZ.out.trans (HBE9.out.mono HBZ.out.size)) (by rw [← HFP.out]; exact HR9.out)
        have hst3 : lo = if i % 16 ≠ 0 ∧ (upS (nums (eb.drop p)) 0 0 mxU).1 ≠ (comN last.data.toList s : Nat) then (161, p) else opL eb pz wd N (N - (i + 1)) (i + 1) x s := by rw [HS2.out, if_neg hbad]
        have HS3 := Lib.hid hst3
        clear hst3
        have hi9 : 0 < i := by omega
        have hz1 : decide ((0 : Int) < (i : Int) % 16) = true := decide_eq_true (by omega)
        have hi0 : decide ((0 : Int) < (i : Int)) = true := decide_eq_true (by omega)
        have hi1 : decide (0 < i) = true := decide_eq_true hi9
        obtain rfl : lt = true := by cases lt with
          | true => rfl
          | false => exact absurd ⟨hi9, rfl⟩ hbad
        clear hbad
        have hsh := ent_sh (eb := eb) (p := (p : Nat)) (last := last.data.toList) (by rw [← HEN.out])
        rw [Int.toNat_natCast] at hsh
        obtain ⟨U, hU⟩ : ∃ U, U = (upS (nums (eb.drop p)) 0 0 mxU).1 := ⟨_, rfl⟩
        obtain ⟨u, hu⟩ : ∃ u : Nat, U = (u : Int) := ⟨U.toNat, by omega⟩
        have hul : u ≤ 262144 := by omega
        have HS4 : Hid (lo = if u ≠ comN last.data.toList s then (161, p) else opL eb pz wd N (N - (i + 1)) (i + 1) x s) := Lib.hid (by
          rw [HS3.out, ← hU, hu]
          by_cases h : u = comN last.data.toList s
          · rw [if_neg (by omega), if_neg (by simp [h])]
          · rw [if_pos ⟨hm, by omega⟩, if_pos h])
        have hsaid : ∀ X, Below wr.heap.size wr X → Calls Tryd.prog 17 #[.pointer (some ⟨gd, 0, none⟩), .int .i64 (p : Nat)] X fun e w' => e = .returned (.int .i64 (u : Nat)) ∧ Below wr.heap.size wr w' := fun X hX => by
          have := said_calls X gd N wd pa pc pz ea ec eb (HDR.out.keep hX) p hp
          rw [← hU, hu, show wrap64 (u : Int) = (u : Int) from wrap64_id (by omega)] at this
          exact this.mono fun e w' ⟨h1, h2⟩ => ⟨h1, hX.trans (h2.mono hX.size)⟩
        have halk : ∀ X, Calls Tryd.prog 18 #[.string last, .string sB] X fun e w' => e = .returned (.int .i64 (comN last.data.toList s : Nat)) ∧ ∃ m, w' = X.drewN m := fun X => by
          have := alike_calls X last.data.toList sB.data.toList (by rw [← Lib.size_eq]; omega) (by rw [← Lib.size_eq]; omega)
          rw [HSD.out] at this
          exact (by have e1 : (⟨last.data.toList.toArray⟩ : ByteArray) = last := by simp
                    have e2 : (⟨s.toArray⟩ : ByteArray) = sB := by rw [← HSD.out]
                    rw [e1, e2] at this; exact this)
        have hcml := (comN_le last.data.toList s).1
        have hcl2 : comN last.data.toList s ≤ 262144 := Nat.le_trans hcml hlx
        obtain ⟨cm, hcm⟩ : ∃ cm, cm = comN last.data.toList s := ⟨_, rfl⟩
        rw [← hcm] at halk HS4 hcl2
        have HSA := Lib.hid hsaid
        have HAL := Lib.hid halk
        clear hsaid halk hU hu hsh hcm hcml
        by_cases huc : u = cm
        · subst huc
          have hN : lo = opL eb pz wd N (N - (i + 1)) (i + 1) x s := by rw [HS4.out, if_neg (by simp)]
          have HN := Lib.hid hN
          clear hN
          go_wp2_with (first | (go_at_call 17; (with_reducible refine (HSA.out _ HX5.out).mono ?_); rintro e w6 ⟨rfl, hb6⟩; (have HX6 := Lib.hid hb6); clear hb6) | (go_at_call 18; (with_reducible refine (HAL.out _).mono ?_); rintro e w7 ⟨rfl, hm7⟩; (have HY := Lib.hid (show Below wr.heap.size wr w7 by obtain ⟨m7, rfl⟩ := hm7; exact below_drewN HX6.out m7)); clear hm7))
          go_roundw
          case rel => exact ⟨i + 1, x, sB, rfl, rfl, by go_num, by omega, hxe, hsB2, by rw [HSD.out]; exact HN.out, HRB.out.trans ((HY.out).mono HRB.out.size)⟩
          case measure => simp [intOf]; omega
        · have hne2 : ((u : Int) != (cm : Int)) = true := by simp; omega
          have hne : (161 : Int) ≠ 0 := by decide
          have hE2 : er = (161, F + p) := by rw [HE.out, show lo = (161, p) from by rw [HS4.out, if_pos huc]]; exact if_pos hne
          have HE2 := Lib.hid hE2
          clear hE2 huc
          go_wp2_with (first | (go_at_call 17; (with_reducible refine (HSA.out _ HX5.out).mono ?_); rintro e w6 ⟨rfl, hb6⟩; (have HX6 := Lib.hid hb6); clear hb6) | (go_at_call 18; (with_reducible refine (HAL.out _).mono ?_); rintro e w7 ⟨rfl, hm7⟩; (have HY := Lib.hid (show Below wr.heap.size wr w7 by obtain ⟨m7, rfl⟩ := hm7; exact below_drewN HX6.out m7)); clear hm7) | (go_at_call 14; (with_reducible refine (wrong_calls _ _ _).mono ?_); rintro e w9 ⟨b9, rfl, hb9, hr9, hbe9⟩; (have HR9 := Lib.hid hr9); (have HBE9 := Lib.hid hbe9); clear hr9 hbe9))
          go_ret2
          rw [HE2.out]
          exact OpR.no hne ((HBR.out.trans (HY.out.mono hzr)).trans (HBE9.out.mono (HBR.out.trans (HY.out.mono hzr)).size)) (by rw [← HFP.out]; exact HR9.out)
  have hB0 : Below w1.heap.size w1 w1.drew := Below.drew (Below.refl _ _)
  refine wh_startN (S := fun W => Below w1.heap.size w1 W) 20 rfl (by kernel_rfl) ?_
  generalize w1.drew = V0 at hB0 ⊢
  refine wh_takeD 0 27 (.pointer (some ⟨gd, 0, none⟩)) rfl rfl rfl (by kernel_rfl) (by kernel_rfl) (by kernel_rfl) (fun _ _ _ _ h => h) (hB0) (fun w' h => by simp [go_sem]) ?_
  simp only [List.setIfInBounds_toArray, List.set_cons_succ, List.set_cons_zero]
  refine wh_takeD 1 28 (.pointer (some ⟨gd, 0, none⟩)) rfl rfl rfl (by kernel_rfl) (by kernel_rfl) (by kernel_rfl) (fun _ _ _ _ h => h) (hB0) (fun w' h => by simp [go_sem]) ?_
  simp only [List.setIfInBounds_toArray, List.set_cons_succ, List.set_cons_zero]
  refine wh_takeD 2 29 (.pointer (some ⟨gd, 2, none⟩)) rfl rfl rfl (by kernel_rfl) (by kernel_rfl) (by kernel_rfl) (fun _ _ _ _ h => h) (hB0) (fun w' h => by simp [go_sem]) ?_
  simp only [List.setIfInBounds_toArray, List.set_cons_succ, List.set_cons_zero]
  refine wh_takeD 3 30 (.slice pa pz.length pc) rfl rfl rfl (by kernel_rfl) (by kernel_rfl) (by kernel_rfl) (fun _ _ _ _ h => h) (hB0) (fun w' h => by have k := (HD.out.keep h).c2; simp [go_sem, k]) ?_
  simp only [List.setIfInBounds_toArray, List.set_cons_succ, List.set_cons_zero]
  refine wh_takeD 4 31 (.pointer (some ⟨gd, 0, none⟩)) rfl rfl rfl (by kernel_rfl) (by kernel_rfl) (by kernel_rfl) (fun _ _ _ _ h => h) (hB0) (fun w' h => by simp [go_sem]) ?_
  simp only [List.setIfInBounds_toArray, List.set_cons_succ, List.set_cons_zero]
  refine wh_takeD 5 32 (.pointer (some ⟨gd, 0, none⟩)) rfl rfl rfl (by kernel_rfl) (by kernel_rfl) (by kernel_rfl) (fun _ _ _ _ h => h) (hB0) (fun w' h => by simp [go_sem]) ?_
  simp only [List.setIfInBounds_toArray, List.set_cons_succ, List.set_cons_zero]
  refine wh_takeD 6 33 (.pointer (some ⟨gd, 0, none⟩)) rfl rfl rfl (by kernel_rfl) (by kernel_rfl) (by kernel_rfl) (fun _ _ _ _ h => h) (hB0) (fun w' h => by simp [go_sem]) ?_
  simp only [List.setIfInBounds_toArray, List.set_cons_succ, List.set_cons_zero]
  refine wh_takeD 7 34 (.int .i64 (N : Nat)) rfl rfl rfl (by kernel_rfl) (by kernel_rfl) (by kernel_rfl) (fun _ _ _ _ h => h) (hB0) (fun w' h => by have k := (HD.out.keep h).c0; simp [go_sem, k]) ?_
  simp only [List.setIfInBounds_toArray, List.set_cons_succ, List.set_cons_zero]
  refine wh_takeD 9 36 (.pointer (some ⟨gd, 0, none⟩)) rfl rfl rfl (by kernel_rfl) (by kernel_rfl) (by kernel_rfl) (fun _ _ _ _ h => h) (hB0) (fun w' h => by simp [go_sem]) ?_
  simp only [List.setIfInBounds_toArray, List.set_cons_succ, List.set_cons_zero]
  refine wh_takeD 10 37 (.pointer (some ⟨gd, 0, none⟩)) rfl rfl rfl (by kernel_rfl) (by kernel_rfl) (by kernel_rfl) (fun _ _ _ _ h => h) (hB0) (fun w' h => by simp [go_sem]) ?_
  simp only [List.setIfInBounds_toArray, List.set_cons_succ, List.set_cons_zero]
  refine wh_takeD 11 38 (.pointer (some ⟨gd, 1, none⟩)) rfl rfl rfl (by kernel_rfl) (by kernel_rfl) (by kernel_rfl) (fun _ _ _ _ h => h) (hB0) (fun w' h => by simp [go_sem]) ?_
  simp only [List.setIfInBounds_toArray, List.set_cons_succ, List.set_cons_zero]
  refine wh_takeD 12 39 (.int .i64 (wd : Nat)) rfl rfl rfl (by kernel_rfl) (by kernel_rfl) (by kernel_rfl) (fun _ _ _ _ h => h) (hB0) (fun w' h => by have k := (HD.out.keep h).c1; simp [go_sem, k]) ?_
  simp only [List.setIfInBounds_toArray, List.set_cons_succ, List.set_cons_zero]
  refine wh_two 8 17 (by kernel_rfl) ?_ ?_
  · refine wo_callD 8 35 (.int .i64 (R : Nat)) (fun w' => Below w1.heap.size w1 w') rfl rfl rfl (by simp [go_sem]) (HBQ.out V0 hB0) ?_
    intro w5 h5
    refine ⟨h5, ?_⟩
    simp only [List.setIfInBounds_toArray, List.set_cons_succ, List.set_cons_zero]
    refine wh_two 13 17 (by kernel_rfl) ?_ ?_
    · refine wo_callD 13 40 (.tuple #[.agg #[(.slice qa ql qc), (.int .i64 qi), (.int .i64 qj)], .int .i64 oe]) (fun w' => Below w1.heap.size w1 w') rfl rfl rfl (by simp [go_sem]) (HPO.out w5 h5) ?_
      intro w6 h6
      refine ⟨h6, ?_⟩
      simp only [List.setIfInBounds_toArray, List.set_cons_succ, List.set_cons_zero]
      refine wh_takeD 14 26 (.tuple #[.agg #[(.slice qa ql qc), (.int .i64 qi), (.int .i64 qj)], .int .i64 oe]) rfl rfl rfl (by kernel_rfl) (by kernel_rfl) (by kernel_rfl) (fun _ _ _ _ h => h) (h6) (fun w' h => by simp [go_sem]) ?_
      simp only [List.setIfInBounds_toArray, List.set_cons_succ, List.set_cons_zero]
      refine wh_takeD 15 41 (.agg #[(.slice qa ql qc), (.int .i64 qi), (.int .i64 qj)]) rfl rfl rfl (by kernel_rfl) (by kernel_rfl) (by kernel_rfl) (fun _ _ _ _ h => h) (h6) (fun w' h => by simp [go_sem]) ?_
      simp only [List.setIfInBounds_toArray, List.set_cons_succ, List.set_cons_zero]
      refine wh_takeD 16 42 (.int .i64 oe) rfl rfl rfl (by kernel_rfl) (by kernel_rfl) (by kernel_rfl) (fun _ _ _ _ h => h) (h6) (fun w' h => by simp [go_sem]) ?_
      simp only [List.setIfInBounds_toArray, List.set_cons_succ, List.set_cons_zero]
      refine wh_stepD 17 8 (.pointer (some ⟨w6.heap.size, 0, none⟩)) (w' := w6.alloc (.cells #[.slice none 0 0, .int .i64 0, .int .i64 0] 44)) rfl rfl rfl (by kernel_rfl) (by simp [go_sem]) (h6.alloc h6.size _) ?_
      simp only [List.setIfInBounds_toArray, List.set_cons_succ, List.set_cons_zero]
      refine wh_skipD 18 (w' := w6.alloc (.cells #[(.slice qa ql qc), (.int .i64 qi), (.int .i64 qj)] 44)) rfl rfl rfl (by kernel_rfl) (by simp [go_sem]) (h6.alloc h6.size _) ?_
      refine wh_takeD 19 9 (.int .i64 oe) rfl rfl rfl (by kernel_rfl) (by kernel_rfl) (by kernel_rfl) (fun _ _ _ _ h => h) ((h6.alloc h6.size _)) (fun w' h => by simp [go_sem]) ?_
      simp only [List.setIfInBounds_toArray, List.set_cons_succ, List.set_cons_zero]
      refine wpAnyH_done (by kernel_rfl) ?_ 0
      exact after _ _ (h6.alloc h6.size _)
    · refine wo_stepD 17 8 (.pointer (some ⟨w5.heap.size, 0, none⟩)) (w' := w5.alloc (.cells #[.slice none 0 0, .int .i64 0, .int .i64 0] 44)) rfl rfl rfl (by simp [go_sem]) ?_
      have hX : Below w1.heap.size w1 (w5.alloc (.cells #[.slice none 0 0, .int .i64 0, .int .i64 0] 44)) := h5.alloc h5.size _
      refine ⟨hX, ?_⟩
      simp only [List.setIfInBounds_toArray, List.set_cons_succ, List.set_cons_zero]
      have hnew := heap_alloc_new w5 (.cells #[.slice none 0 0, .int .i64 0, .int .i64 0] 44)
      have hgle := h5.size
      generalize w5.alloc (.cells #[.slice none 0 0, .int .i64 0, .int .i64 0] 44) = X at hX hnew ⊢
      refine wh_callD 13 40 (.tuple #[.agg #[(.slice qa ql qc), (.int .i64 qi), (.int .i64 qj)], .int .i64 oe]) (fun w' => Below w1.heap.size w1 w' ∧ Below X.heap.size X w') rfl rfl rfl (by kernel_rfl) (by simp [go_sem]) ((HPO2.out X hX).mono fun e w' ⟨h1, h2⟩ => ⟨h1, hX.trans (h2.mono hX.size), h2⟩) (fun w' h => h.1) ?_
      rintro w6 ⟨h6, b6⟩
      have hz6 := (b6.block _ (lt_of_block hnew)).trans hnew
      simp only [List.setIfInBounds_toArray, List.set_cons_succ, List.set_cons_zero]
      refine wh_takeD 14 26 (.tuple #[.agg #[(.slice qa ql qc), (.int .i64 qi), (.int .i64 qj)], .int .i64 oe]) rfl rfl rfl (by kernel_rfl) (by kernel_rfl) (by kernel_rfl) (fun _ _ _ _ h => h) (h6) (fun w' h => by simp [go_sem]) ?_
      simp only [List.setIfInBounds_toArray, List.set_cons_succ, List.set_cons_zero]
      refine wh_takeD 15 41 (.agg #[(.slice qa ql qc), (.int .i64 qi), (.int .i64 qj)]) rfl rfl rfl (by kernel_rfl) (by kernel_rfl) (by kernel_rfl) (fun _ _ _ _ h => h) (h6) (fun w' h => by simp [go_sem]) ?_
      simp only [List.setIfInBounds_toArray, List.set_cons_succ, List.set_cons_zero]
      refine wh_takeD 16 42 (.int .i64 oe) rfl rfl rfl (by kernel_rfl) (by kernel_rfl) (by kernel_rfl) (fun _ _ _ _ h => h) (h6) (fun w' h => by simp [go_sem]) ?_
      simp only [List.setIfInBounds_toArray, List.set_cons_succ, List.set_cons_zero]
      have q0 : w6.cell? ⟨w5.heap.size, 0, none⟩ = some (.slice none 0 0) := (cell_of_row _ _ 0 _ _ _ hz6).trans rfl
      have q1 : w6.cell? ⟨w5.heap.size, 1, none⟩ = some (.int .i64 0) := (cell_of_row _ _ 1 _ _ _ hz6).trans rfl
      have q2 : w6.cell? ⟨w5.heap.size, 2, none⟩ = some (.int .i64 0) := (cell_of_row _ _ 2 _ _ _ hz6).trans rfl
      have f6 := fun k => frozen_of_row _ _ k _ _ hz6
      have h9 : Below w1.heap.size w1 (((w6.setCell ⟨w5.heap.size, 0, none⟩ (.slice qa ql qc)).setCell ⟨w5.heap.size, 1, none⟩ (.int .i64 qi)).setCell ⟨w5.heap.size, 2, none⟩ (.int .i64 qj)) := ((h6.setCell (p := ⟨w5.heap.size, 0, none⟩) hgle _).setCell (p := ⟨w5.heap.size, 1, none⟩) hgle _).setCell (p := ⟨w5.heap.size, 2, none⟩) hgle _
      refine wh_skipD 18 (w' := ((w6.setCell ⟨w5.heap.size, 0, none⟩ (.slice qa ql qc)).setCell ⟨w5.heap.size, 1, none⟩ (.int .i64 qi)).setCell ⟨w5.heap.size, 2, none⟩ (.int .i64 qj)) rfl rfl rfl (by kernel_rfl) (by simp [go_sem, q0, q1, q2, f6]) h9 ?_
      refine wh_takeD 19 9 (.int .i64 oe) rfl rfl rfl (by kernel_rfl) (by kernel_rfl) (by kernel_rfl) (fun _ _ _ _ h => h) (h9) (fun w' h => by simp [go_sem]) ?_
      simp only [List.setIfInBounds_toArray, List.set_cons_succ, List.set_cons_zero]
      refine wpAnyH_done (by kernel_rfl) ?_ 0
      exact after _ _ h9
  · refine wo_stepD 17 8 (.pointer (some ⟨V0.heap.size, 0, none⟩)) (w' := V0.alloc (.cells #[.slice none 0 0, .int .i64 0, .int .i64 0] 44)) rfl rfl rfl (by simp [go_sem]) ?_
    have hX : Below w1.heap.size w1 (V0.alloc (.cells #[.slice none 0 0, .int .i64 0, .int .i64 0] 44)) := hB0.alloc hB0.size _
    refine ⟨hX, ?_⟩
    simp only [List.setIfInBounds_toArray, List.set_cons_succ, List.set_cons_zero]
    have hnew := heap_alloc_new V0 (.cells #[.slice none 0 0, .int .i64 0, .int .i64 0] 44)
    have hgle := hB0.size
    generalize V0.alloc (.cells #[.slice none 0 0, .int .i64 0, .int .i64 0] 44) = X at hX hnew ⊢
    refine wh_callD 8 35 (.int .i64 (R : Nat)) (fun w' => Below w1.heap.size w1 w' ∧ X = w') rfl rfl rfl (by kernel_rfl) (by simp [go_sem]) ((HBQ2.out X).mono fun e w' ⟨h1, h2⟩ => ⟨h1, by rw [← h2]; exact hX, h2⟩) (fun w' h => h.1) ?_
    rintro _ ⟨h5, rfl⟩
    simp only [List.setIfInBounds_toArray, List.set_cons_succ, List.set_cons_zero]
    refine wh_callD 13 40 (.tuple #[.agg #[(.slice qa ql qc), (.int .i64 qi), (.int .i64 qj)], .int .i64 oe]) (fun w' => Below w1.heap.size w1 w' ∧ Below X.heap.size X w') rfl rfl rfl (by kernel_rfl) (by simp [go_sem]) ((HPO2.out X hX).mono fun e w' ⟨h1, h2⟩ => ⟨h1, hX.trans (h2.mono hX.size), h2⟩) (fun w' h => h.1) ?_
    rintro w6 ⟨h6, b6⟩
    have hz6 := (b6.block _ (lt_of_block hnew)).trans hnew
    simp only [List.setIfInBounds_toArray, List.set_cons_succ, List.set_cons_zero]
    refine wh_takeD 14 26 (.tuple #[.agg #[(.slice qa ql qc), (.int .i64 qi), (.int .i64 qj)], .int .i64 oe]) rfl rfl rfl (by kernel_rfl) (by kernel_rfl) (by kernel_rfl) (fun _ _ _ _ h => h) (h6) (fun w' h => by simp [go_sem]) ?_
    simp only [List.setIfInBounds_toArray, List.set_cons_succ, List.set_cons_zero]
    refine wh_takeD 15 41 (.agg #[(.slice qa ql qc), (.int .i64 qi), (.int .i64 qj)]) rfl rfl rfl (by kernel_rfl) (by kernel_rfl) (by kernel_rfl) (fun _ _ _ _ h => h) (h6) (fun w' h => by simp [go_sem]) ?_
    simp only [List.setIfInBounds_toArray, List.set_cons_succ, List.set_cons_zero]
    refine wh_takeD 16 42 (.int .i64 oe) rfl rfl rfl (by kernel_rfl) (by kernel_rfl) (by kernel_rfl) (fun _ _ _ _ h => h) (h6) (fun w' h => by simp [go_sem]) ?_
    simp only [List.setIfInBounds_toArray, List.set_cons_succ, List.set_cons_zero]
    have q0 : w6.cell? ⟨V0.heap.size, 0, none⟩ = some (.slice none 0 0) := (cell_of_row _ _ 0 _ _ _ hz6).trans rfl
    have q1 : w6.cell? ⟨V0.heap.size, 1, none⟩ = some (.int .i64 0) := (cell_of_row _ _ 1 _ _ _ hz6).trans rfl
    have q2 : w6.cell? ⟨V0.heap.size, 2, none⟩ = some (.int .i64 0) := (cell_of_row _ _ 2 _ _ _ hz6).trans rfl
    have f6 := fun k => frozen_of_row _ _ k _ _ hz6
    have h9 : Below w1.heap.size w1 (((w6.setCell ⟨V0.heap.size, 0, none⟩ (.slice qa ql qc)).setCell ⟨V0.heap.size, 1, none⟩ (.int .i64 qi)).setCell ⟨V0.heap.size, 2, none⟩ (.int .i64 qj)) := ((h6.setCell (p := ⟨V0.heap.size, 0, none⟩) hgle _).setCell (p := ⟨V0.heap.size, 1, none⟩) hgle _).setCell (p := ⟨V0.heap.size, 2, none⟩) hgle _
    refine wh_skipD 18 (w' := ((w6.setCell ⟨V0.heap.size, 0, none⟩ (.slice qa ql qc)).setCell ⟨V0.heap.size, 1, none⟩ (.int .i64 qi)).setCell ⟨V0.heap.size, 2, none⟩ (.int .i64 qj)) rfl rfl rfl (by kernel_rfl) (by simp [go_sem, q0, q1, q2, f6]) h9 ?_
    refine wh_takeD 19 9 (.int .i64 oe) rfl rfl rfl (by kernel_rfl) (by kernel_rfl) (by kernel_rfl) (fun _ _ _ _ h => h) (h9) (fun w' h => by simp [go_sem]) ?_
    simp only [List.setIfInBounds_toArray, List.set_cons_succ, List.set_cons_zero]
    refine wpAnyH_done (by kernel_rfl) ?_ 0
    exact after _ _ h9
end Go.Proofs.YtjgcmnppiaikcaaDoor
