/- IndexRune, ContainsRune, IndexAny: texts of ASCII bytes asked for any rune. -/
import Derived.Test.YtlhcejbimlilaaaGreatDoorShA
import Derived.Test.YtlhcejbimlilaaaGreatDoorReg
import Derived.Test.YtlhcejbimlilaaaGreatDoorUtfC
import Derived.Lib.RuneCount
import Derived.Lib.OthersKept
import Derived.Laws.Runes
import Derived.Deep.LoopGhost
import Derived.IntWalk
set_option linter.unusedVariables false
set_option linter.unusedSimpArgs false
namespace Go.Tk
open Go Go.RowKit
/-- The place of a rune among ASCII bytes; -1: it is none of them. -/
def runeAt (l : List UInt8) (r : Int) : Int := if r < 128 then Lib.indexByte l r.toNat.toUInt8 else -1
def Ascii (s : ByteArray) : Prop := ∀ b ∈ s.data.toList, b.toNat < 128
theorem get!_lt {s : ByteArray} {i : Nat} (h : i < s.size) : s.get! i = s[i] := by
  have : s.get! i = s.data[i]! := rfl
  rw [this, getElem!_pos s.data i h]; rfl
theorem dec_low_byte (s : ByteArray) (pos : Nat) (h : pos < s.size) (hb : s[pos].toNat < 128) : Utf8.decode s pos = (s[pos].toNat, 1) := by
  unfold Utf8.decode
  simp only [Nat.add_zero, get!_lt h]
  rw [if_pos (by omega)]
theorem indexByte_high {l : List UInt8} {c : UInt8} (hl : ∀ b ∈ l, b.toNat < 128) (hc : 128 ≤ c.toNat) : Lib.indexByte l c = -1 := by
  induction l with
  | nil => rfl
  | cons b l ih =>
    have hb : ¬ b = c := fun e => by have := hl b (by simp); rw [e] at this; omega
    have := ih (fun x hx => hl x (by simp [hx]))
    simp [Lib.indexByte, hb, this]
theorem calls_same {P : Program} {f : FuncId} {args : Array Value} {w : World} {v : Ending} (h : Calls P f args w fun e w' => e = v ∧ w' = w) : Calls P f args w fun e w' => e = v ∧ w = w' :=
  h.mono fun _ _ ⟨a, b⟩ => ⟨a, b.symm⟩
end Go.Tk
namespace Go.Proofs.YtlhcejbimlilaaaGreatDoor
open Go.RowKit Go.Tk
theorem byte_calls (s : ByteArray) (c : UInt8) (w : World) : Calls Tryz.prog 81 #[.string s, .int .u8 (c.toNat : Nat)] w fun e w' => e = .returned (.int .i64 (Lib.indexByte s.data.toList c)) ∧ w = w' :=
  (Tryz.strings_IndexByte s c.toNat w).mono fun _ _ ⟨h1, e⟩ => ⟨h1.trans (ret_int (by simp)), e.symm⟩
set_option maxHeartbeats 1000000 in
set_option maxRecDepth 100000 in
theorem indexRune_high (s : ByteArray) (r : Int) (w : World) (hs : Ascii s) (h0 : 128 ≤ r) (h1 : r ≤ 1114111) (_hsz : s.size ≤ 9223372036854770000) :
    Calls Tryz.prog 136 #[.string s, .int .i32 r] w fun e w' => e = .returned (.int .i64 (-1)) ∧ Below w.heap.size w w' := by
  by_cases hE : r = 65533
  · subst hE
    go_enter Tryz.func136, Tryz.ntmps136
    go_wp2_with fail
    go_loopg [5, 6] s.size (fun gf _ _ wx => ∃ pos : Nat, wx.heap[w.heap.size]? = some (.stringIter s pos) ∧ Below w.heap.size w wx ∧ s.size ≤ pos + gf)
    case atStart => exact ⟨0, World.iter_heap w s 0, (Below.refl _ w).alloc (Nat.le_refl _) _, by omega⟩
    case round =>
      obtain ⟨pos, hit, hbw, hfu⟩ := hrel
      by_cases hps : pos < s.size
      · obtain ⟨g', rfl⟩ : ∃ g', gk = g' + 1 := ⟨gk - 1, by omega⟩
        have hnx : ∀ ty, (Instr.next (.pointer (some ⟨w.heap.size, 0, none⟩)) true ty).run Tryz.prog wr = _ := fun ty => Lib.run_next_any_at wr w.heap.size s pos ty hit hps
        have hsp : s[pos].toNat < 128 := hs _ (by have : s[pos] = s.data[pos] := rfl
                                                  rw [this]; simp)
        rw [dec_low_byte s pos hps hsp] at hnx
        have hit2 := Lib.iterAt_heap wr w.heap.size s pos (pos + 1) hit
        have hbw2 := Lib.below_iterAt hbw (k := w.heap.size) (Nat.le_refl _) s (pos + 1)
        obtain ⟨W, hWd⟩ : ∃ W, wr.iterAt w.heap.size s (pos + 1) = W := ⟨_, rfl⟩
        rw [hWd] at hnx hit2 hbw2
        obtain ⟨R, hR⟩ : ∃ R : Nat, s[pos].toNat = R := ⟨_, rfl⟩
        rw [hR] at hnx hsp
        have hne : ((R : Int) == 65533) = false := by rw [beq_eq_false_iff_ne]; omega
        clear hR hWd
        go_wp2_with fail
        go_roundg g'
        case measure => omega
        case rel => exact ⟨pos + 1, hit2, hbw2, by omega⟩
      · have hnx : ∀ ty, (Instr.next (.pointer (some ⟨w.heap.size, 0, none⟩)) true ty).run Tryz.prog wr = _ := fun ty => Lib.run_next_end_at wr w.heap.size s pos ty hit hps
        go_wp2_with fail
        go_ret
        exact ⟨rfl, hbw⟩
  have hE' : (r == 65533) = false := by rw [beq_eq_false_iff_ne]; exact hE
  have hvr := fun w => calls_same (Tryz.utf8_ValidRune r w)
  cases hv : Lib.validRune r with
  | false =>
    rw [hv] at hvr
    have HV := Lib.hid hvr
    clear hvr hv
    go_enter Tryz.func136, Tryz.ntmps136
    go_wp2_with (go_at_call 170; refine (HV.out _).mono ?_; rintro e w' ⟨rfl, rfl⟩)
    go_ret
    exact ⟨rfl, Below.refl _ _⟩
  | true =>
    rw [hv] at hvr
    have HV := Lib.hid hvr
    have hu : Utf8.valid r = true := by rw [validRune_eq]; exact hv
    obtain ⟨hz2, hz4, hlast⟩ := encode_facts r hu h0
    obtain ⟨t, ht⟩ : ∃ t, t = Utf8.encode r := ⟨_, rfl⟩
    have hcv : ∀ w, (convert 21 9 (.int .i32 r)).run Tryz.prog w = .ok (.string t) w := fun w => by
      rw [ht]; exact run_convert_int_string w _ _ .i32 r (by rw [Tryz.underlying21]; rfl) Tryz.underlying9
    rw [← ht] at hz2 hz4 hlast
    obtain ⟨m, hm⟩ : ∃ m, t.size = m + 1 := ⟨t.size - 1, by omega⟩
    have hmt : m < t.size := by omega
    have hm3 : m ≤ 3 := by omega
    have hl : 128 ≤ (t[m]'hmt).toNat := by
      have h2 := hlast (by omega)
      have e : t.size - 1 = m := by omega
      simp only [e] at h2
      exact h2
    obtain ⟨c, hc⟩ : ∃ c, c = t[m]'hmt := ⟨_, rfl⟩
    rw [← hc] at hl
    have hih : ∀ j, Lib.indexByte (s.extract j s.size).data.toList c = -1 := fun j => indexByte_high (fun b hb => hs b (mem_extract hb)) hl
    have hcx : ∀ h : m < t.size, t[m]'h = c := fun h => hc.symm
    obtain ⟨y, hy⟩ : ∃ y : Int, y = (c.toNat : Int) := ⟨_, rfl⟩
    have hsc : ∀ j, (h : j < s.size) → ((((s[j]'h).toNat : Nat) : Int) == y) = false := fun j h => by
      rw [beq_eq_false_iff_ne, hy]
      have := hs (s[j]'h) (by have : s[j] = s.data[j] := rfl
                              rw [this]; simp)
      omega
    have hcy : ((c.toNat : Nat) : Int) = y := hy.symm
    have hib : ∀ (w : World) (j : Nat), Calls Tryz.prog 81 #[.string (s.extract j s.size), .int .u8 y] w fun e w' => e = .returned (.int .i64 (-1)) ∧ w = w' := fun w j => by
      have := byte_calls (s.extract j s.size) c w
      rw [hih j, ← hy] at this
      exact this
    have HIB := Lib.hid hib
    have HSC := Lib.hid hsc
    have HCX := Lib.hid hcx
    have HCY := Lib.hid hcy
    have HM := Lib.hid hm
    clear hvr hv hlast hu ht hc hib hih hy hz2 hz4 hl hsc hcx hcy hm
    have hty : ∀ h : m < t.size, (((t[m]'h).toNat : Nat) : Int) = y := fun h => by rw [HCX.out h, HCY.out]
    by_cases hms : m < s.size
    · have hb1 := HSC.out m hms
      have hm := HM.out
      go_enter Tryz.func136, Tryz.ntmps136
      go_wp2_with (go_at_call 170; refine (HV.out _).mono ?_; rintro e w' ⟨rfl, rfl⟩)
      go_step3
      go_wp2_with fail
      go_loopw [9, 10, 11, 12] (fun i _ _ _ wr => i = .int .i64 (m : Nat) ∧ wr = w) (fun _ _ _ _ _ => 0)
      case atStart => exact ⟨rfl, rfl⟩
      case round =>
        obtain ⟨rfl, rfl⟩ := hrel
        go_wp2_with fail
        go_step3
        go_wp2_with fail
        go_quiet (fail)
        go_wp2_with fail
        have hix : ∀ w, (Instr.index 9 (.string t) (.int .i64 (m : Int))).run Tryz.prog w = .ok (.int .u8 y) w := fun w => by
          rw [run_index_string w _ t .i64 m Tryz.underlying9, dif_pos ⟨by omega, by omega⟩]
          simp only [Int.toNat_natCast]
          rw [hty]
        clear hty hm
        have w1 : IntKind.i64.wrap ((m : Int) + 1) = (m : Int) + 1 := IntWalk.i64_in _ (by omega)
        have w2 : (0 : Int) ≤ (m : Int) + 1 := by omega
        have w3 : ((m : Int) + 1).toNat = m + 1 := by omega
        have w4 : (m : Int) + 1 ≤ (s.size : Int) := by omega
        have hb2 : Below wr.heap.size wr (wr.drewN nq) := Go.Tk.below_drewN (Below.refl _ _) nq
        generalize wr.drewN nq = w2 at *
        go_quiet ((go_at_call 81; exact quiet_eq (HIB.out _ _)))
        go_wp2_with fail
        rw [Exit.noGoto_ret]
        go_wp2_with fail
        first | rw [Exit.noGoto_ret] | skip
        go_ret
        exact ⟨rfl, Go.Tk.below_drewN hb2 _⟩
    · have hm := HM.out
      go_enter Tryz.func136, Tryz.ntmps136
      go_wp2_with (go_at_call 170; refine (HV.out _).mono ?_; rintro e w' ⟨rfl, rfl⟩)
      go_step3
      go_wp2_with fail
      go_loopw [9, 10, 11, 12] (fun i _ _ _ wr => i = .int .i64 (m : Nat) ∧ wr = w) (fun _ _ _ _ _ => 0)
      case atStart => exact ⟨rfl, rfl⟩
      case round =>
        obtain ⟨rfl, rfl⟩ := hrel
        go_wp2_with fail
        first | rw [Exit.noGoto_ret] | skip
        go_ret
        exact ⟨rfl, Below.refl _ _⟩
/-- A rune that is asked for among ASCII bytes. -/
theorem indexRune_any (s : ByteArray) (r : Int) (w : World) (hs : Ascii s) (h0 : 0 ≤ r) (h1 : r ≤ 1114111) (hsz : s.size ≤ 9223372036854770000) :
    Calls Tryz.prog 136 #[.string s, .int .i32 r] w fun e w' => e = .returned (.int .i64 (runeAt s.data.toList r)) ∧ Below w.heap.size w w' := by
  by_cases h : r < 128
  · unfold runeAt; rw [if_pos h]
    exact (Tryz.strings_IndexRune_ascii s r w h0 h).mono fun e w' ⟨a, b⟩ => ⟨a, b ▸ Below.refl _ _⟩
  · unfold runeAt; rw [if_neg h]
    exact indexRune_high s r w hs (by omega) h1 hsz
end Go.Proofs.YtlhcejbimlilaaaGreatDoor
