/- VdU VbA, laid as one. -/
import Derived.Test.YtlhcejbimlilaaaGreatDoorVdT
import Derived.Test.YtlhcejbimlilaaaGreatDoorVaZ
import Derived.Test.YtlhcejbimlilaaaGreatDoorVaJ
import Derived.Test.YtlhcejbimlilaaaGreatDoorVaG
set_option linter.unusedVariables false
set_option linter.unusedSimpArgs false
/- The document's Read, whole. -/
namespace Go.Tk
open Go Go.RowKit
theorem twoP_le {l mk : List UInt8} {v : Int} {r : List UInt8} (h : twoP l mk = some (v, r)) : r.length ≤ l.length := by
  obtain ⟨a, b, u, rfl, _, _, _, rfl⟩ := twoP_some h
  simp only [List.length_drop, List.length_cons]
  omega
theorem ngR_le8 (s : List UInt8) : (ngR s).length ≤ s.length := by
  unfold ngR Lib.trimPrefix
  split
  · simp
  · exact Nat.le_refl _
theorem rdY_le {l r : List UInt8} {y m d : Int} (h : rdY l = some (y, m, d, r)) : r.length ≤ l.length := by
  unfold rdY at h
  split at h
  · cases h1 : twoP ((ngR l).drop ((yrI (ngR l)).toNat + 1)) [45] with
    | none => rw [h1] at h; cases h
    | some x =>
      obtain ⟨v, r1⟩ := x
      rw [h1] at h
      dsimp only at h
      split at h
      · cases h
      · cases h2 : twoP r1 [] with
        | none => rw [h2] at h; cases h
        | some y =>
          obtain ⟨v2, r2⟩ := y
          rw [h2] at h
          dsimp only at h
          split at h
          · cases h
          · have e : r2 = r := (Prod.mk.inj (Prod.mk.inj (Prod.mk.inj (Option.some.inj h)).2).2).2
            have a1 := twoP_le h1
            have a2 := twoP_le h2
            have a3 := ngR_le8 l
            rw [List.length_drop] at a1
            rw [← e]; omega
  · cases h
theorem rdT_le {l p z : List UInt8} {c : Int} (h : rdT l = some (c, p, z)) : z.length ≤ l.length := by
  unfold rdT rdH at h
  cases h1 : twoP l [58] with
  | none => rw [h1] at h; cases h
  | some x =>
    obtain ⟨v, r1⟩ := x
    rw [h1] at h
    dsimp only at h
    cases h2 : twoP r1 [58] with
    | none => rw [h2] at h; cases h
    | some y =>
      obtain ⟨v2, r2⟩ := y
      rw [h2] at h
      dsimp only at h
      cases h3 : twoP r2 [] with
      | none => rw [h3] at h; cases h
      | some q =>
        obtain ⟨v3, r3⟩ := q
        rw [h3] at h
        dsimp only at h
        have a1 := twoP_le h1
        have a2 := twoP_le h2
        have a3 := twoP_le h3
        by_cases hb : 59 < v2 ∨ 59 < v3 ∨ 24 < v
        · rw [if_pos hb] at h; cases h
        · rw [if_neg hb] at h
          dsimp only at h
          cases hF : rdF r3 with
          | none => rw [hF] at h; cases h
          | some f =>
            obtain ⟨p', e⟩ := f
            rw [hF] at h
            dsimp only at h
            split at h
            · cases h
            · have e1 : e = z := (Prod.mk.inj (Prod.mk.inj (Option.some.inj h)).2).2
              have a4 : e.length ≤ r3.length := by
                unfold rdF at hF
                split at hF
                · split at hF
                  · cases hF
                  · have := (Prod.mk.inj (Option.some.inj hF)).2
                    rw [← this, List.length_drop, List.length_drop]; omega
                · have := (Prod.mk.inj (Option.some.inj hF)).2
                  rw [← this]; exact Nat.le_refl _
              rw [← e1]; omega
end Go.Tk
namespace Go.Proofs.YtlhcejbimlilaaaGreatDoor
open Go.RowKit Go.Tk
theorem zo_use {x : World} {g : Nat} {m : Mo8} {Z : ByteArray} {Q : Mo8 → Prop} (hs : Z.size ≤ 65536) (hz : m.z = false) (ho : m.o = 0) (hr : MoAt x g m)
    (hq : ∀ z o, rdZ Z.data.toList = some (z, o) → Q { m with z := z, o := o }) :
    Calls Tryz.prog 92 #[.pointer (some ⟨g, 0, none⟩), .string Z] x fun e x' => ∃ (z : Bool) (o : Int), e = .returned (.bool (rdZ Z.data.toList).isSome) ∧ MoAt x' g { m with z := z, o := o } ∧ Below g x x' ∧ ((rdZ Z.data.toList).isSome = true → Q { m with z := z, o := o }) := by
  refine (rzone_calls x g m Z (by omega) hz ho hr).mono fun e x' h => ?_
  obtain ⟨z, o, h1, h2, h3, h4⟩ := h
  refine ⟨z, o, h1, h2, h3, fun hk => ?_⟩
  obtain ⟨v, hv⟩ := Option.isSome_iff_exists.1 hk
  have := h4 v hv
  exact hq z o (by rw [hv, ← this])
theorem da_noU {x : World} {g : Nat} {m : Mo8} {s : ByteArray} (hs : s.size ≤ 65536) (hY : rdY s.data.toList = none) (hr : MoAt x g m) :
    Calls Tryz.prog 90 #[.pointer (some ⟨g, 0, none⟩), .string s] x fun e x' => ∃ (R : ByteArray) (y mo d : Int), e = .returned (.tuple #[.string R, .bool false]) ∧ MoAt x' g { m with y := y, mo := mo, d := d } ∧ Below g x x' ∧ True :=
  (rdate_calls x g m s hs hr).mono fun e x' ⟨R, y, mo, d, h1, h2, h3, h4⟩ => ⟨R, y, mo, d, by rw [h1, hY]; rfl, h2, h3, trivial⟩
theorem da_yesU {x : World} {g : Nat} {m : Mo8} {s : ByteArray} {Y M D : Int} {r : List UInt8} (hs : s.size ≤ 65536) (hY : rdY s.data.toList = some (Y, M, D, r)) (hr : MoAt x g m) :
    Calls Tryz.prog 90 #[.pointer (some ⟨g, 0, none⟩), .string s] x fun e x' => ∃ (R : ByteArray) (y mo d : Int), e = .returned (.tuple #[.string R, .bool true]) ∧ MoAt x' g { m with y := y, mo := mo, d := d } ∧ Below g x x' ∧ (R = ⟨r.toArray⟩ ∧ y = Y ∧ mo = M ∧ d = D) :=
  (rdate_calls x g m s hs hr).mono fun e x' ⟨R, y, mo, d, h1, h2, h3, h4⟩ => by
    have h5 := h4 _ hY
    obtain ⟨e1, h6⟩ := Prod.mk.inj h5
    obtain ⟨e2, h7⟩ := Prod.mk.inj h6
    obtain ⟨e3, e4⟩ := Prod.mk.inj h7
    exact ⟨R, y, mo, d, by rw [h1, hY]; rfl, h2, h3, by rw [← e4, str_mk], e1, e2, e3⟩
theorem ti_noU {x : World} {g : Nat} {m : Mo8} {s : ByteArray} (hs : s.size ≤ 65536) (hf : m.f = ⟨#[]⟩) (hT : rdT s.data.toList = none) (hr : MoAt x g m) :
    Calls Tryz.prog 91 #[.pointer (some ⟨g, 0, none⟩), .string s] x fun e x' => ∃ (R f : ByteArray) (h mi sc : Int), e = .returned (.tuple #[.string R, .bool false]) ∧ MoAt x' g { m with h := h, mi := mi, s := sc, f := f } ∧ Below g x x' ∧ True :=
  (rtime_calls x g m s hs hf hr).mono fun e x' ⟨R, f, h, mi, sc, h1, h2, h3, h4⟩ => ⟨R, f, h, mi, sc, by rw [h1, hT]; rfl, h2, h3, trivial⟩
theorem ti_yesU {x : World} {g : Nat} {m : Mo8} {s : ByteArray} {c : Int} {p zt : List UInt8} (hs : s.size ≤ 65536) (hf : m.f = ⟨#[]⟩) (hT : rdT s.data.toList = some (c, p, zt)) (hr : MoAt x g m) :
    Calls Tryz.prog 91 #[.pointer (some ⟨g, 0, none⟩), .string s] x fun e x' => ∃ (R f : ByteArray) (h mi sc : Int), e = .returned (.tuple #[.string R, .bool true]) ∧ MoAt x' g { m with h := h, mi := mi, s := sc, f := f } ∧ Below g x x' ∧ (R = ⟨zt.toArray⟩ ∧ TiOk s.data.toList { m with h := h, mi := mi, s := sc, f := f } zt) :=
  (rtime_calls x g m s hs hf hr).mono fun e x' ⟨R, f, h, mi, sc, h1, h2, h3, h4⟩ => by
    obtain ⟨h5, h6⟩ := h4 _ hT
    obtain ⟨e1, h7⟩ := Prod.mk.inj h5
    obtain ⟨e2, e3⟩ := Prod.mk.inj h7
    exact ⟨R, f, h, mi, sc, by rw [h1, hT]; rfl, h2, h3, by rw [e3, str_mk], by rw [hT, e1, e2], h6⟩
theorem read_clk (w : World) (s : ByteArray) (hs : s.size ≤ 65536) : Calls Tryz.prog 44 #[.string s, .int .i64 8] w (RePost (rdClk s.data.toList).isSome (RkClk s.data.toList) w) := by
  cases hT : rdT s.data.toList with
  | none =>
    rw [clk_none hT]
    exact re_i8 w s _ fun x hr => ti_noU hs rfl hT hr
  | some x =>
    obtain ⟨c, p, zt⟩ := x
    rw [clk_zon hT]
    have hl := rdT_le hT
    have hz : (⟨zt.toArray⟩ : ByteArray).size ≤ 65536 := by rw [sz_mk]; rw [← Lib.size_eq] at hl; omega
    exact re_z8 w s (fun m => TiOk s.data.toList m zt ∧ m.y = 1 ∧ m.mo = 1 ∧ m.d = 1) _ _ ⟨zt.toArray⟩
      (fun x hr => (ti_yesU hs rfl hT hr).mono fun e x' ⟨R, f, h, mi, sc, h1, h2, h3, h4, h5⟩ => ⟨R, f, h, mi, sc, h1, h2, h3, h4, h5, rfl, rfl, rfl⟩)
      (fun x m hm hr => zo_use (Q := RkClk s.data.toList) hz hm.2.1 hm.2.2 hr fun z o hq => ⟨zt, hm.1.1, hq, hm.1.2⟩)
theorem read_day (w : World) (s : ByteArray) (hs : s.size ≤ 65536) : Calls Tryz.prog 44 #[.string s, .int .i64 7] w (RePost (rdDay s.data.toList).isSome (RkDay s.data.toList) w) := by
  cases hY : rdY s.data.toList with
  | none =>
    rw [(dt_none hY).2]
    exact re_d7 w s _ fun x hr => da_noU hs hY hr
  | some x =>
    obtain ⟨Y, M, D, r⟩ := x
    rw [day_zon hY]
    have hl := rdY_le hY
    have hz : (⟨r.toArray⟩ : ByteArray).size ≤ 65536 := by rw [sz_mk]; rw [← Lib.size_eq] at hl; omega
    exact re_z7 w s _ _ ⟨r.toArray⟩ Y M D (fun x hr => da_yesU hs hY hr)
      (fun x m hm hr => by
        subst hm
        exact zo_use (Q := RkDay s.data.toList) hz rfl rfl hr fun z o hq => ⟨r, hY, hq, rfl, rfl, rfl, rfl⟩)
theorem read_dt (w : World) (s : ByteArray) (hs : s.size ≤ 65536) : Calls Tryz.prog 44 #[.string s, .int .i64 6] w (RePost (rdDT s.data.toList).isSome (RkDT s.data.toList) w) := by
  cases hY : rdY s.data.toList with
  | none =>
    rw [(dt_none hY).1]
    exact re_d6 w s _ fun x hr => da_noU hs hY hr
  | some x =>
    obtain ⟨Y, M, D, r⟩ := x
    have hl := rdY_le hY
    have hR : (⟨r.toArray⟩ : ByteArray).size = r.length := sz_mk _
    have hsr : (⟨r.toArray⟩ : ByteArray).size ≤ 65536 := by rw [hR]; rw [← Lib.size_eq] at hl; omega
    obtain ⟨R1, hR1⟩ : ∃ R : ByteArray, R = ⟨r.toArray⟩ := ⟨_, rfl⟩
    have hd : ∀ x, MoAt x (w.heap.size + 1) mo1 → Calls Tryz.prog 90 #[.pointer (some ⟨w.heap.size + 1, 0, none⟩), .string s] x fun e x' => ∃ (R : ByteArray) (y mo d : Int), e = .returned (.tuple #[.string R, .bool true]) ∧ MoAt x' (w.heap.size + 1) { mo1 with y := y, mo := mo, d := d } ∧ Below (w.heap.size + 1) x x' ∧ (R = R1 ∧ y = Y ∧ mo = M ∧ d = D) := fun x hr => by rw [hR1]; exact da_yesU hs hY hr
    rw [← hR1] at hR hsr
    have hRd : R1.data.toList = r := by rw [hR1]
    cases hr0 : r with
    | nil =>
      have hN := dt_pre hY (by rw [hr0]; rfl)
      rw [hN]
      exact re_t0 w s _ R1 Y M D hd (by rw [Lib.toList_data, hRd, hr0]; rfl)
    | cons c q =>
      have te : (R1.toList == []) = false := by rw [Lib.toList_data, hRd, hr0]; rfl
      have k0 : 0 < R1.size := by rw [hR, hr0]; simp
      have hc : R1[0] = c := by rw [← ba_get R1 0 k0]; simp [hRd, hr0]
      have t84 : (84 : UInt8).toNat = 84 := rfl
      by_cases z0 : (((R1[0]).toNat : Nat) : Int) = 84
      · have hc84 : c = 84 := by rw [← hc]; exact UInt8.toNat.inj (by omega)
        have hp : Lib.hasPrefix r [84] = true := by rw [hr0, hc84]; exact pre_one 84 _
        obtain ⟨S2, hS2⟩ : ∃ P, R1.extract 1 R1.size = P := ⟨_, rfl⟩
        have hS2d : S2.data.toList = r.drop 1 := by rw [← hS2, ex_drop, hRd]
        have hS2s : S2.size ≤ 65536 := by rw [Lib.size_eq, hS2d, List.length_drop]; omega
        cases hT : rdT (r.drop 1) with
        | none =>
          rw [dt_tim hY hp hT]
          exact re_i6 w s _ R1 Y M D hd te k0 z0 S2 hS2 fun x hr => ti_noU hS2s rfl (by rw [hS2d]; exact hT) hr
        | some v =>
          obtain ⟨cc, p, zt⟩ := v
          rw [dt_zon hY hp hT]
          have hl2 := rdT_le hT
          have hz : (⟨zt.toArray⟩ : ByteArray).size ≤ 65536 := by rw [sz_mk]; rw [List.length_drop] at hl2; omega
          exact re_z6 w s (fun m => TiOk (r.drop 1) m zt ∧ m.y = Y ∧ m.mo = M ∧ m.d = D) _ _ R1 Y M D hd te k0 z0 S2 hS2 ⟨zt.toArray⟩
            (fun x hr => (ti_yesU hS2s rfl (by rw [hS2d]; exact hT) hr).mono fun e x' ⟨R, f, h, mi, sc, h1, h2, h3, h4, h5⟩ => ⟨R, f, h, mi, sc, h1, h2, h3, h4, by rw [hS2d] at h5; exact h5, rfl, rfl, rfl⟩)
            (fun x m hm hr => zo_use (Q := RkDT s.data.toList) hz hm.2.1 hm.2.2 hr fun z o hq => ⟨r, zt, by rw [hY, ← hm.1.2.1, ← hm.1.2.2.1, ← hm.1.2.2.2], hp, hm.1.1, hq⟩)
      · have hc84 : c ≠ 84 := fun e => z0 (by rw [hc, e]; rfl)
        have hN := dt_pre hY (by rw [hr0]; exact pre_no _ hc84)
        rw [hN]
        exact re_t1 w s _ R1 Y M D hd te k0 z0
end Go.Proofs.YtlhcejbimlilaaaGreatDoor
/- The kinds of datatypes: plain; the program's ends (written by gen_vb1.py). -/
namespace Go.Tk
open Go Go.RowKit
def xsd : List UInt8 := [104, 116, 116, 112, 58, 47, 47, 119, 119, 119, 46, 119, 51, 46, 111, 114, 103, 47, 50, 48, 48, 49, 47, 88, 77, 76, 83, 99, 104, 101, 109, 97, 35]
/-- The ends of the kins of integer. -/
def endsP (l : List UInt8) : Option (List UInt8 × List UInt8) :=
  if l = [105, 110, 116, 101, 103, 101, 114] then some ([], [])
  else if l = [110, 111, 110, 80, 111, 115, 105, 116, 105, 118, 101, 73, 110, 116, 101, 103, 101, 114] then some ([], [48])
  else if l = [110, 101, 103, 97, 116, 105, 118, 101, 73, 110, 116, 101, 103, 101, 114] then some ([], [45, 49])
  else if l = [110, 111, 110, 78, 101, 103, 97, 116, 105, 118, 101, 73, 110, 116, 101, 103, 101, 114] then some ([48], [])
  else if l = [112, 111, 115, 105, 116, 105, 118, 101, 73, 110, 116, 101, 103, 101, 114] then some ([49], [])
  else if l = [108, 111, 110, 103] then some ([45, 57, 50, 50, 51, 51, 55, 50, 48, 51, 54, 56, 53, 52, 55, 55, 53, 56, 48, 56], [57, 50, 50, 51, 51, 55, 50, 48, 51, 54, 56, 53, 52, 55, 55, 53, 56, 48, 55])
  else if l = [105, 110, 116] then some ([45, 50, 49, 52, 55, 52, 56, 51, 54, 52, 56], [50, 49, 52, 55, 52, 56, 51, 54, 52, 55])
  else if l = [115, 104, 111, 114, 116] then some ([45, 51, 50, 55, 54, 56], [51, 50, 55, 54, 55])
  else if l = [98, 121, 116, 101] then some ([45, 49, 50, 56], [49, 50, 55])
  else if l = [117, 110, 115, 105, 103, 110, 101, 100, 76, 111, 110, 103] then some ([48], [49, 56, 52, 52, 54, 55, 52, 52, 48, 55, 51, 55, 48, 57, 53, 53, 49, 54, 49, 53])
  else if l = [117, 110, 115, 105, 103, 110, 101, 100, 73, 110, 116] then some ([48], [52, 50, 57, 52, 57, 54, 55, 50, 57, 53])
  else if l = [117, 110, 115, 105, 103, 110, 101, 100, 83, 104, 111, 114, 116] then some ([48], [54, 53, 53, 51, 53])
  else if l = [117, 110, 115, 105, 103, 110, 101, 100, 66, 121, 116, 101] then some ([48], [50, 53, 53])
  else none
inductive Kd where
  | str | boo | dec | dbl | dtm | dat | tim | hex | b64
  | int (lo hi : List UInt8)
def kdL (l : List UInt8) : Option Kd :=
  if l = [115, 116, 114, 105, 110, 103] then some .str
  else if l = [98, 111, 111, 108, 101, 97, 110] then some .boo
  else if l = [100, 101, 99, 105, 109, 97, 108] then some .dec
  else if l = [100, 111, 117, 98, 108, 101] then some .dbl
  else if l = [102, 108, 111, 97, 116] then some .dbl
  else if l = [100, 97, 116, 101, 84, 105, 109, 101] then some .dtm
  else if l = [100, 97, 116, 101] then some .dat
  else if l = [116, 105, 109, 101] then some .tim
  else if l = [104, 101, 120, 66, 105, 110, 97, 114, 121] then some .hex
  else if l = [98, 97, 115, 101, 54, 52, 66, 105, 110, 97, 114, 121] then some .b64
  else (endsP l).map fun x => .int x.1 x.2
def kdOf (typ : List UInt8) : Option Kd := if Lib.hasPrefix typ xsd = true then kdL (typ.drop 33) else none
def endV (o : Option (List UInt8 × List UInt8)) : Value := match o with
  | none => .tuple #[.string ⟨#[48]⟩, .string ⟨#[]⟩, .bool false]
  | some x => .tuple #[.string ⟨x.1.toArray⟩, .string ⟨x.2.toArray⟩, .bool true]
theorem st_ne {s : ByteArray} {l : List UInt8} (h : s.data.toList ≠ l) : (s.toList == l) = false := by rw [Lib.toList_data]; exact beq_false_of_ne h
theorem endsP_none {l : List UInt8} (h0 : l ≠ [105, 110, 116, 101, 103, 101, 114]) (h1 : l ≠ [110, 111, 110, 80, 111, 115, 105, 116, 105, 118, 101, 73, 110, 116, 101, 103, 101, 114]) (h2 : l ≠ [110, 101, 103, 97, 116, 105, 118, 101, 73, 110, 116, 101, 103, 101, 114]) (h3 : l ≠ [110, 111, 110, 78, 101, 103, 97, 116, 105, 118, 101, 73, 110, 116, 101, 103, 101, 114]) (h4 : l ≠ [112, 111, 115, 105, 116, 105, 118, 101, 73, 110, 116, 101, 103, 101, 114]) (h5 : l ≠ [108, 111, 110, 103]) (h6 : l ≠ [105, 110, 116]) (h7 : l ≠ [115, 104, 111, 114, 116]) (h8 : l ≠ [98, 121, 116, 101]) (h9 : l ≠ [117, 110, 115, 105, 103, 110, 101, 100, 76, 111, 110, 103]) (h10 : l ≠ [117, 110, 115, 105, 103, 110, 101, 100, 73, 110, 116]) (h11 : l ≠ [117, 110, 115, 105, 103, 110, 101, 100, 83, 104, 111, 114, 116]) (h12 : l ≠ [117, 110, 115, 105, 103, 110, 101, 100, 66, 121, 116, 101]) : endsP l = none := by
  unfold endsP
  rw [if_neg h0, if_neg h1, if_neg h2, if_neg h3, if_neg h4, if_neg h5, if_neg h6, if_neg h7, if_neg h8, if_neg h9, if_neg h10, if_neg h11, if_neg h12]
end Go.Tk
namespace Go.Proofs.YtlhcejbimlilaaaGreatDoor
open Go.RowKit Go.Tk
set_option maxHeartbeats 1000000 in
theorem ends_calls (s : ByteArray) (w : World) : Calls Tryz.prog 65 #[.string s] w fun e w' => e = .returned (endV (endsP s.data.toList)) ∧ w = w' := by
  by_cases h0 : s.data.toList = [105, 110, 116, 101, 103, 101, 114]
  · obtain rfl : s = ⟨#[105, 110, 116, 101, 103, 101, 114]⟩ := by rw [← str_mk s, h0]
    show Calls _ _ _ _ fun e w' => e = .returned (.tuple #[.string ⟨#[]⟩, .string ⟨#[]⟩, .bool true]) ∧ _
    clear h0
    go_enter Tryz.func65, Tryz.ntmps65
    go_wp2_with fail
    refine bodyPost_ret (v := .tuple #[.string ⟨#[]⟩, .string ⟨#[]⟩, .bool true]) (by simp [results, Tryz.results65, go_sem]) rfl ⟨rfl, rfl⟩
  by_cases h1 : s.data.toList = [110, 111, 110, 80, 111, 115, 105, 116, 105, 118, 101, 73, 110, 116, 101, 103, 101, 114]
  · obtain rfl : s = ⟨#[110, 111, 110, 80, 111, 115, 105, 116, 105, 118, 101, 73, 110, 116, 101, 103, 101, 114]⟩ := by rw [← str_mk s, h1]
    show Calls _ _ _ _ fun e w' => e = .returned (.tuple #[.string ⟨#[]⟩, .string ⟨#[48]⟩, .bool true]) ∧ _
    clear h0 h1
    go_enter Tryz.func65, Tryz.ntmps65
    go_wp2_with fail
    refine bodyPost_ret (v := .tuple #[.string ⟨#[]⟩, .string ⟨#[48]⟩, .bool true]) (by simp [results, Tryz.results65, go_sem]) rfl ⟨rfl, rfl⟩
  by_cases h2 : s.data.toList = [110, 101, 103, 97, 116, 105, 118, 101, 73, 110, 116, 101, 103, 101, 114]
  · obtain rfl : s = ⟨#[110, 101, 103, 97, 116, 105, 118, 101, 73, 110, 116, 101, 103, 101, 114]⟩ := by rw [← str_mk s, h2]
    show Calls _ _ _ _ fun e w' => e = .returned (.tuple #[.string ⟨#[]⟩, .string ⟨#[45, 49]⟩, .bool true]) ∧ _
    clear h0 h1 h2
    go_enter Tryz.func65, Tryz.ntmps65
    go_wp2_with fail
    refine bodyPost_ret (v := .tuple #[.string ⟨#[]⟩, .string ⟨#[45, 49]⟩, .bool true]) (by simp [results, Tryz.results65, go_sem]) rfl ⟨rfl, rfl⟩
  by_cases h3 : s.data.toList = [110, 111, 110, 78, 101, 103, 97, 116, 105, 118, 101, 73, 110, 116, 101, 103, 101, 114]
  · obtain rfl : s = ⟨#[110, 111, 110, 78, 101, 103, 97, 116, 105, 118, 101, 73, 110, 116, 101, 103, 101, 114]⟩ := by rw [← str_mk s, h3]
    show Calls _ _ _ _ fun e w' => e = .returned (.tuple #[.string ⟨#[48]⟩, .string ⟨#[]⟩, .bool true]) ∧ _
    clear h0 h1 h2 h3
    go_enter Tryz.func65, Tryz.ntmps65
    go_wp2_with fail
    refine bodyPost_ret (v := .tuple #[.string ⟨#[48]⟩, .string ⟨#[]⟩, .bool true]) (by simp [results, Tryz.results65, go_sem]) rfl ⟨rfl, rfl⟩
  by_cases h4 : s.data.toList = [112, 111, 115, 105, 116, 105, 118, 101, 73, 110, 116, 101, 103, 101, 114]
  · obtain rfl : s = ⟨#[112, 111, 115, 105, 116, 105, 118, 101, 73, 110, 116, 101, 103, 101, 114]⟩ := by rw [← str_mk s, h4]
    show Calls _ _ _ _ fun e w' => e = .returned (.tuple #[.string ⟨#[49]⟩, .string ⟨#[]⟩, .bool true]) ∧ _
    clear h0 h1 h2 h3 h4
    go_enter Tryz.func65, Tryz.ntmps65
    go_wp2_with fail
    refine bodyPost_ret (v := .tuple #[.string ⟨#[49]⟩, .string ⟨#[]⟩, .bool true]) (by simp [results, Tryz.results65, go_sem]) rfl ⟨rfl, rfl⟩
  by_cases h5 : s.data.toList = [108, 111, 110, 103]
  · obtain rfl : s = ⟨#[108, 111, 110, 103]⟩ := by rw [← str_mk s, h5]
    show Calls _ _ _ _ fun e w' => e = .returned (.tuple #[.string ⟨#[45, 57, 50, 50, 51, 51, 55, 50, 48, 51, 54, 56, 53, 52, 55, 55, 53, 56, 48, 56]⟩, .string ⟨#[57, 50, 50, 51, 51, 55, 50, 48, 51, 54, 56, 53, 52, 55, 55, 53, 56, 48, 55]⟩, .bool true]) ∧ _
    clear h0 h1 h2 h3 h4 h5
    go_enter Tryz.func65, Tryz.ntmps65
    go_wp2_with fail
    refine bodyPost_ret (v := .tuple #[.string ⟨#[45, 57, 50, 50, 51, 51, 55, 50, 48, 51, 54, 56, 53, 52, 55, 55, 53, 56, 48, 56]⟩, .string ⟨#[57, 50, 50, 51, 51, 55, 50, 48, 51, 54, 56, 53, 52, 55, 55, 53, 56, 48, 55]⟩, .bool true]) (by simp [results, Tryz.results65, go_sem]) rfl ⟨rfl, rfl⟩
  by_cases h6 : s.data.toList = [105, 110, 116]
  · obtain rfl : s = ⟨#[105, 110, 116]⟩ := by rw [← str_mk s, h6]
    show Calls _ _ _ _ fun e w' => e = .returned (.tuple #[.string ⟨#[45, 50, 49, 52, 55, 52, 56, 51, 54, 52, 56]⟩, .string ⟨#[50, 49, 52, 55, 52, 56, 51, 54, 52, 55]⟩, .bool true]) ∧ _
    clear h0 h1 h2 h3 h4 h5 h6
    go_enter Tryz.func65, Tryz.ntmps65
    go_wp2_with fail
    refine bodyPost_ret (v := .tuple #[.string ⟨#[45, 50, 49, 52, 55, 52, 56, 51, 54, 52, 56]⟩, .string ⟨#[50, 49, 52, 55, 52, 56, 51, 54, 52, 55]⟩, .bool true]) (by simp [results, Tryz.results65, go_sem]) rfl ⟨rfl, rfl⟩
  by_cases h7 : s.data.toList = [115, 104, 111, 114, 116]
  · obtain rfl : s = ⟨#[115, 104, 111, 114, 116]⟩ := by rw [← str_mk s, h7]
    show Calls _ _ _ _ fun e w' => e = .returned (.tuple #[.string ⟨#[45, 51, 50, 55, 54, 56]⟩, .string ⟨#[51, 50, 55, 54, 55]⟩, .bool true]) ∧ _
    clear h0 h1 h2 h3 h4 h5 h6 h7
    go_enter Tryz.func65, Tryz.ntmps65
    go_wp2_with fail
    refine bodyPost_ret (v := .tuple #[.string ⟨#[45, 51, 50, 55, 54, 56]⟩, .string ⟨#[51, 50, 55, 54, 55]⟩, .bool true]) (by simp [results, Tryz.results65, go_sem]) rfl ⟨rfl, rfl⟩
  by_cases h8 : s.data.toList = [98, 121, 116, 101]
  · obtain rfl : s = ⟨#[98, 121, 116, 101]⟩ := by rw [← str_mk s, h8]
    show Calls _ _ _ _ fun e w' => e = .returned (.tuple #[.string ⟨#[45, 49, 50, 56]⟩, .string ⟨#[49, 50, 55]⟩, .bool true]) ∧ _
    clear h0 h1 h2 h3 h4 h5 h6 h7 h8
    go_enter Tryz.func65, Tryz.ntmps65
    go_wp2_with fail
    refine bodyPost_ret (v := .tuple #[.string ⟨#[45, 49, 50, 56]⟩, .string ⟨#[49, 50, 55]⟩, .bool true]) (by simp [results, Tryz.results65, go_sem]) rfl ⟨rfl, rfl⟩
  by_cases h9 : s.data.toList = [117, 110, 115, 105, 103, 110, 101, 100, 76, 111, 110, 103]
  · obtain rfl : s = ⟨#[117, 110, 115, 105, 103, 110, 101, 100, 76, 111, 110, 103]⟩ := by rw [← str_mk s, h9]
    show Calls _ _ _ _ fun e w' => e = .returned (.tuple #[.string ⟨#[48]⟩, .string ⟨#[49, 56, 52, 52, 54, 55, 52, 52, 48, 55, 51, 55, 48, 57, 53, 53, 49, 54, 49, 53]⟩, .bool true]) ∧ _
    clear h0 h1 h2 h3 h4 h5 h6 h7 h8 h9
    go_enter Tryz.func65, Tryz.ntmps65
    go_wp2_with fail
    refine bodyPost_ret (v := .tuple #[.string ⟨#[48]⟩, .string ⟨#[49, 56, 52, 52, 54, 55, 52, 52, 48, 55, 51, 55, 48, 57, 53, 53, 49, 54, 49, 53]⟩, .bool true]) (by simp [results, Tryz.results65, go_sem]) rfl ⟨rfl, rfl⟩
  by_cases h10 : s.data.toList = [117, 110, 115, 105, 103, 110, 101, 100, 73, 110, 116]
  · obtain rfl : s = ⟨#[117, 110, 115, 105, 103, 110, 101, 100, 73, 110, 116]⟩ := by rw [← str_mk s, h10]
    show Calls _ _ _ _ fun e w' => e = .returned (.tuple #[.string ⟨#[48]⟩, .string ⟨#[52, 50, 57, 52, 57, 54, 55, 50, 57, 53]⟩, .bool true]) ∧ _
    clear h0 h1 h2 h3 h4 h5 h6 h7 h8 h9 h10
    go_enter Tryz.func65, Tryz.ntmps65
    go_wp2_with fail
    refine bodyPost_ret (v := .tuple #[.string ⟨#[48]⟩, .string ⟨#[52, 50, 57, 52, 57, 54, 55, 50, 57, 53]⟩, .bool true]) (by simp [results, Tryz.results65, go_sem]) rfl ⟨rfl, rfl⟩
  by_cases h11 : s.data.toList = [117, 110, 115, 105, 103, 110, 101, 100, 83, 104, 111, 114, 116]
  · obtain rfl : s = ⟨#[117, 110, 115, 105, 103, 110, 101, 100, 83, 104, 111, 114, 116]⟩ := by rw [← str_mk s, h11]
    show Calls _ _ _ _ fun e w' => e = .returned (.tuple #[.string ⟨#[48]⟩, .string ⟨#[54, 53, 53, 51, 53]⟩, .bool true]) ∧ _
    clear h0 h1 h2 h3 h4 h5 h6 h7 h8 h9 h10 h11
    go_enter Tryz.func65, Tryz.ntmps65
    go_wp2_with fail
    refine bodyPost_ret (v := .tuple #[.string ⟨#[48]⟩, .string ⟨#[54, 53, 53, 51, 53]⟩, .bool true]) (by simp [results, Tryz.results65, go_sem]) rfl ⟨rfl, rfl⟩
  by_cases h12 : s.data.toList = [117, 110, 115, 105, 103, 110, 101, 100, 66, 121, 116, 101]
  · obtain rfl : s = ⟨#[117, 110, 115, 105, 103, 110, 101, 100, 66, 121, 116, 101]⟩ := by rw [← str_mk s, h12]
    show Calls _ _ _ _ fun e w' => e = .returned (.tuple #[.string ⟨#[48]⟩, .string ⟨#[50, 53, 53]⟩, .bool true]) ∧ _
    clear h0 h1 h2 h3 h4 h5 h6 h7 h8 h9 h10 h11 h12
    go_enter Tryz.func65, Tryz.ntmps65
    go_wp2_with fail
    refine bodyPost_ret (v := .tuple #[.string ⟨#[48]⟩, .string ⟨#[50, 53, 53]⟩, .bool true]) (by simp [results, Tryz.results65, go_sem]) rfl ⟨rfl, rfl⟩
  rw [endsP_none h0 h1 h2 h3 h4 h5 h6 h7 h8 h9 h10 h11 h12]
  show Calls _ _ _ _ fun e w' => e = .returned (.tuple #[.string ⟨#[48]⟩, .string ⟨#[]⟩, .bool false]) ∧ _
  have e0 := st_ne h0
  have e1 := st_ne h1
  have e2 := st_ne h2
  have e3 := st_ne h3
  have e4 := st_ne h4
  have e5 := st_ne h5
  have e6 := st_ne h6
  have e7 := st_ne h7
  have e8 := st_ne h8
  have e9 := st_ne h9
  have e10 := st_ne h10
  have e11 := st_ne h11
  have e12 := st_ne h12
  clear h0 h1 h2 h3 h4 h5 h6 h7 h8 h9 h10 h11 h12
  go_enter Tryz.func65, Tryz.ntmps65
  go_wp2_with fail
  refine bodyPost_ret (v := .tuple #[.string ⟨#[48]⟩, .string ⟨#[]⟩, .bool false]) (by simp [results, Tryz.results65, go_sem]) rfl ⟨rfl, rfl⟩
end Go.Proofs.YtlhcejbimlilaaaGreatDoor
