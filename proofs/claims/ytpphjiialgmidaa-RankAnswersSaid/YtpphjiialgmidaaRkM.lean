/- packed, made, works. -/
import Derived.Test.YtpphjiialgmidaaRkC
import Derived.Test.YtpphjiialgmidaaRkK
import Derived.Test.YtpphjiialgmidaaSlB
import Derived.Test.YtpphjiialgmidaaRkS
set_option linter.unusedVariables false
set_option linter.unusedSimpArgs false
namespace Go.Tk
open Go Go.RowKit
theorem or_and : ∀ y : Fin 256, ∀ v : Fin 8, bits .or .u8 (y.val : Int) (2 ^ v.val) = ((y.val ||| 2 ^ v.val : Nat) : Int) := by decide +kernel
theorem nums_set (l : List UInt8) (i : Nat) (x : UInt8) : (nums l).set i (x.toNat : Int) = nums (l.set i x) := by simp [nums, List.map_set]
theorem nums_rep (n : Nat) : nums (List.replicate n 0) = List.replicate n 0 := by simp [nums]
end Go.Tk
namespace Go.Proofs.Ytpphjiialgmidaa
open Go.RowKit Go.Tk
set_option maxRecDepth 100000 in
set_option maxHeartbeats 1000000 in
theorem packed_calls (w : World) (a : Option Addr) (n c : Nat) (l : List Bool) (h : SlB w a n c l) (hn : n ≤ 67108864) :
    Calls Try.prog 20 #[.slice a n c] w fun e w' => ∃ g, e = .returned (.slice (some ⟨g, 0, none⟩) ((n + 7) / 8) ((n + 7) / 8)) ∧ w.heap.size ≤ g ∧ RowI .u8 5 w' g (nums (packB l)) ∧ Below w.heap.size w w' := by
  have hln := h.len
  have H := Lib.hid h
  have HLN := Lib.hid hln
  obtain ⟨m, hm⟩ : ∃ m, m = (n + 7) / 8 := ⟨_, rfl⟩
  have HM := Lib.hid hm
  have hm2 : m ≤ 8388608 := by omega
  have hmi : ((n : Int) + 7) / 8 = (m : Int) := by omega
  rw [← hm]
  clear h hln hm
  go_enter Try.func20, Try.ntmps20
  go_wp2_with (at_make; refine wpList_mkJ rfl _ _ _ rfl 5 (.int .u8 0) 1 Try.underlying24 Try.infoU8 rfl _ _ _ _ m rfl rfl (by go_num) (by go_num) (by omega) (by omega) ?_; intro w1 hw1 hb1; have HW := Lib.hid hw1; have HB1 := Lib.hid hb1; clear hw1 hb1)
  go_loopw [4] (fun iv wr => ∃ i : Nat, iv = .int .i64 (i : Nat) ∧ i ≤ n ∧ RowI .u8 5 wr w.heap.size (nums (pkB l i)) ∧ Below w.heap.size w wr) (fun iv _ => n - (intOf iv).toNat)
  case atStart =>
    refine ⟨0, rfl, Nat.zero_le _, ?_, below_of_grown HB1.out (Nat.le_refl _) (by simp)⟩
    simp only [pkB, nums_rep]
    unfold RowI
    rw [HW.out, HLN.out, ← HM.out]
    simp
  case round =>
    obtain ⟨i, rfl, hi, hr, hb⟩ := hrel
    have HR := Lib.hid hr
    have HB := Lib.hid hb
    clear hr hb
    by_cases hin : i < n
    · obtain ⟨b, o, rfl, hc⟩ := (H.out.keep HB.out).cell i hin
      have hlen := H.out.le
      obtain ⟨B, hB⟩ : ∃ B, B = l.getD i false := ⟨_, rfl⟩
      rw [← hB] at hc
      have HBB := Lib.hid hB
      clear hB
      have hpl : (pkB l i).length = m := by rw [pk_len, HLN.out, HM.out]
      cases B with
      | false =>
        have HPL := Lib.hid hpl
        clear hpl
        go_wp2
        go_roundw
        case rel => exact ⟨i + 1, by go_num, by omega, by simp only [pkB]; rw [if_neg (by rw [← HBB.out]; decide)]; exact HR.out, HB.out⟩
        case measure => simp [intOf]; omega
      | true =>
        have hrc := HR.out.cell (i / 8) (by rw [nums_len]; omega)
        rw [nums_getD _ _ (by omega)] at hrc
        have hg : (pkB l i).getD (i / 8) 0 = (pkB l i)[i / 8]'(by omega) := by rw [List.getD_eq_getElem?_getD, List.getElem?_eq_getElem (by omega)]; rfl
        rw [← hg] at hrc
        have hfz := HR.out.frozen (i / 8)
        obtain ⟨y, hy⟩ : ∃ y, y = ((pkB l i).getD (i / 8) 0).toNat := ⟨_, rfl⟩
        rw [← hy] at hrc
        have hy2 : y < 256 := by rw [hy]; exact UInt8.toNat_lt _
        have hor := or_and ⟨y, hy2⟩ ⟨i % 8, by omega⟩
        have hob := or_byte y (i % 8) hy2 (by omega)
        simp only at hor
        have hnx : pkB l (i + 1) = (pkB l i).set (i / 8) (UInt8.ofNat (y ||| 2 ^ (i % 8))) := by
          simp only [pkB]; rw [if_pos HBB.out.symm, hy]
        obtain ⟨z, hz⟩ : ∃ z, z = UInt8.ofNat (y ||| 2 ^ (i % 8)) := ⟨_, rfl⟩
        rw [← hz] at hob hnx
        rw [← hob] at hor
        have HNX := Lib.hid hnx
        have hzb : z.toNat < 256 := UInt8.toNat_lt z
        have hrs := fun k => (HR.out.drewN k).set (i / 8) (z.toNat : Int)
        rw [nums_set, ← hnx] at hrs
        obtain ⟨q, hq⟩ : ∃ q, q = z.toNat := ⟨_, rfl⟩
        rw [← hq] at hor hzb hrs
        have HRS := Lib.hid hrs
        have h8 : (8 : Nat) * m ≥ i + 1 := by have := HM.out; omega
        clear hnx hob hz hy hpl hq hrs hg
        have htm : ((i : Int) % 8).toNat = i % 8 := by omega
        have hp7 : 2 ^ (i % 8) ≤ 128 := pow7 (by omega)
        have hpz : ((2 : Int) ^ (i % 8)) = ((2 ^ (i % 8) : Nat) : Int) := by rw [Int.natCast_pow]; rfl
        have hp0 : 1 ≤ 2 ^ (i % 8) := Nat.one_le_two_pow
        have hw5 : IntKind.u8.wrap ((2 : Int) ^ (i % 8)) = (2 : Int) ^ (i % 8) := by rw [hpz, IntKind.wrap_u8]; omega
        clear hpz hp7 hp0
        go_upto_region 6 with fail
        refine wp_region_quiet_tail (fun w' => ∃ n, w' = World.drewN _ n) 10 (by kernel_rfl) (by kernel_rfl) ⟨1, rfl⟩ ?_
        simp only [List.take_succ_cons, List.take_zero, List.drop_succ_cons, List.drop_zero]
        repeat (go_big_quiet_step (fail))
        refine wpQuiet_nil ?_
        rintro _ ⟨n1, rfl⟩
        go_wp2_with fail
        go_roundw
        case rel => exact ⟨i + 1, by go_num, by omega, HRS.out _, by exact (below_drewN HB.out _).setCell (p := ⟨w.heap.size, i / 8, none⟩) (Nat.le_refl _) _⟩
        case measure => simp [intOf]; omega
    · obtain rfl : i = n := by omega
      go_wp2
      go_ret
      refine ⟨w.heap.size, rfl, Nat.le_refl _, ?_, HB.out⟩
      have := HR.out
      unfold packB
      rw [HLN.out]
      exact this
/-- A vector of right bytes. -/
def Vec (w : World) (gv : Nat) (d : List UInt8) (N : Nat) : Prop := ∃ a c, VecAt w gv a c (whB d N) N (cntB d N) ∧ d.length = (N + 7) / 8
theorem Vec.drewN {w : World} {gv : Nat} {d : List UInt8} {N : Nat} (h : Vec w gv d N) (k : Nat) : Vec (w.drewN k) gv d N := by obtain ⟨a, c, h, hl⟩ := h; exact ⟨a, c, h.drewN k, hl⟩
theorem Vec.below {w w' : World} {gv : Nat} {d : List UInt8} {N : Nat} (h : Vec w gv d N) (hb : Below w.heap.size w w') : Vec w' gv d N := by obtain ⟨a, c, h, hl⟩ := h; exact ⟨a, c, h.below hb, hl⟩
set_option maxRecDepth 100000 in
set_option maxHeartbeats 1000000 in
theorem opened (w : World) (a : Option Addr) (n c : Nat) (d : List UInt8) (N : Nat) (hs : SlI .u8 w a n c (nums d)) (hl : d.length = (N + 7) / 8) (hp : padB d N = true) (hN : N ≤ 67108864) :
    Calls Try.prog 14 #[.slice a n c, .int .i64 (N : Nat)] w fun e w' => ∃ g E, e = .returned (.tuple #[.slice (some ⟨g, 0, none⟩) E E, .int .i64 0]) ∧ E = enO d N ∧ w.heap.size ≤ g ∧ SlI .u8 w' (some ⟨g, 0, none⟩) E E (nums (whB d N)) ∧ Below w.heap.size w w' ∧
      ∀ w'', Below w'.heap.size w' w'' → Calls Try.prog 21 #[.slice (some ⟨g, 0, none⟩) E E] w'' fun e w3 => ∃ gv, e = .returned (.tuple #[.pointer (some ⟨gv, 0, none⟩), .nilIface]) ∧ w''.heap.size ≤ gv ∧ Vec w3 gv d N ∧ Below w''.heap.size w'' w3 := by
  have hE : enO d N ≤ 100000000 := by have := cnt_le d N; unfold enO mkO smO grO; omega
  have hW : (nums (whB d N)).length = enO d N := by rw [nums_len, wh_len']
  refine (build_yes w a n c d N hs hl hp hN).mono fun e w' ⟨g, h1, h2, h3, h4⟩ => ?_
  have hsl := row_sl h3 hW (by omega)
  refine ⟨g, _, h1, rfl, h2, hsl, h4, fun w'' hb => ?_⟩
  have hsl2 := hsl.keep hb
  rw [← wh_len' d N] at hsl2 ⊢
  exact (open_wh w'' _ _ d N hl hp hN hsl2).mono fun e w3 ⟨gv, e1, e2, e3, e4⟩ => ⟨gv, e1, e2, ⟨_, _, e3, hl⟩, e4⟩
set_option maxRecDepth 100000 in
set_option maxHeartbeats 1000000 in
theorem made_calls (w : World) (a : Option Addr) (n c : Nat) (l : List Bool) (h : SlB w a n c l) (hn : n ≤ 67108864) :
    Calls Try.prog 25 #[.slice a n c] w fun e w' => ∃ gv, e = .returned (.pointer (some ⟨gv, 0, none⟩)) ∧ w.heap.size ≤ gv ∧ Vec w' gv (packB l) n ∧ Below w.heap.size w w' := by
  have hln := h.len
  have hpk := packed_calls w a n c l h hn
  have hop := fun (w' : World) g hs => opened w' (some ⟨g, 0, none⟩) ((n + 7) / 8) ((n + 7) / 8) (packB l) n hs (by rw [pack_len, hln]) (by rw [← hln]; exact pack_pad l) hn
  have hl8 : (nums (packB l)).length = (n + 7) / 8 := by rw [nums_len, pack_len, hln]
  obtain ⟨m, hm⟩ : ∃ m, m = (n + 7) / 8 := ⟨_, rfl⟩
  have hm2 : m ≤ 8388608 := by omega
  rw [← hm] at hpk hop hl8
  have HPK := Lib.hid hpk
  have HOP := Lib.hid hop
  have HL8 := Lib.hid hl8
  clear h hln hpk hop hl8 hm
  go_enter Try.func25, Try.ntmps25
  go_wp2_with (first
    | (go_at_call 20; (with_reducible refine HPK.out.mono ?_); rintro e w1 ⟨g, rfl, hg, hr, hb⟩; (have HG := Lib.hid hg); (have HR := Lib.hid hr); (have HB1 := Lib.hid hb); clear hg hr hb)
    | (go_at_call 14; (with_reducible refine (HOP.out _ _ (row_sl HR.out HL8.out (by omega))).mono ?_); rintro e w2 ⟨g2, E, rfl, hE, hg2, hsl, hb2, hopen⟩; (have HB2 := Lib.hid hb2); (have HOPEN := Lib.hid hopen); clear hE hg2 hsl hb2 hopen)
    | (go_at_call 21; (with_reducible refine (HOPEN.out _ (Below.refl _ _)).mono ?_); rintro e w3 ⟨gv, rfl, hgv, hv, hb3⟩; (have HGV := Lib.hid hgv); (have HV := Lib.hid hv); (have HB3 := Lib.hid hb3); clear hgv hv hb3)
    | (go_at_call 16; refine (num_calls _ _ (by omega) (by omega)).mono ?_; rintro e wz ⟨rfl, rfl⟩))
  go_ret
  have b2 := HB1.out.trans (HB2.out.mono HB1.out.size)
  exact ⟨gv, rfl, Nat.le_trans b2.size HGV.out, HV.out, b2.trans (HB3.out.mono b2.size)⟩
end Go.Proofs.Ytpphjiialgmidaa
