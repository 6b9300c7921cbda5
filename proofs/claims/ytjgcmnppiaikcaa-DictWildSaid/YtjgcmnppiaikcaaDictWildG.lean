/- DictWild DictWildG, laid as one. -/
import Derived.Test.YtjgcmnppiaikcaaDlW
import Derived.Test.YtjgcmnppiaikcaaDlK
import Derived.Test.YtjgcmnppiaikcaaDlP
set_option linter.unusedVariables false
set_option linter.unusedSimpArgs false
/- DictWild: a dictionary of any bytes answers within its bounds. -/
namespace Go.Proofs.Ytjgcmnppiaikcaa
open Go.RowKit Go.Tk
theorem RiseF.take {n : Nat} : ∀ {lo : Nat} {L : List (Nat × List UInt8)}, RiseF n lo L → ∀ m, RiseF n lo (L.take m)
  | _, [], _, m => by simp [RiseF]
  | _, x :: L, _, 0 => trivial
  | _, x :: L, h, m + 1 => ⟨h.1, h.2.1, RiseF.take h.2.2 m⟩
set_option maxRecDepth 100000 in
set_option maxHeartbeats 8000000 in
theorem dictwild_bytes (w : World) (a : Option Addr) (c : Nat) (bs : List UInt8) (h : SlI .u8 w a bs.length c (nums bs)) (hbl : bs.length ≤ 140737488351232) (a2 : Option Addr) (n2 c2 : Nat) (zs : List Int) (h2 : SlI .i64 w a2 n2 c2 zs) (hz : ∀ z ∈ zs, (Lit.int .i64 z).wf = true) (a3 : Option Addr) (n3 c3 : Nat) (L : List (List UInt8)) (h3 : SlS w a3 n3 c3 L) :
    Calls Try.prog 9 #[.slice a bs.length c, .slice a2 n2 c2, .slice a3 n3 c3] w fun e w' => e = .returned (.bool true) ∧ Below w.heap.size w w' := by
  have hlen := fun w' h' => lentD_calls w' a bs.length c (nums bs) h' hbl
  have hn2b : n2 ≤ 9223372036854775807 := Nat.le_trans h2.le h2.max
  have hn3b : n3 ≤ 9223372036854775807 := Nat.le_trans h3.le h3.max
  have H := Lib.hid h
  have H2 := Lib.hid h2
  have H3 := Lib.hid h3
  have HLEN := Lib.hid hlen
  have HZ := Lib.hid hz
  have HLZ := Lib.hid h2.len
  clear h h2 h3 hlen hz
  go_enter Try.func9, Try.ntmps9
  go_upto_region 4 with (first
    | (go_at_call 22; (with_reducible refine (works_calls _).mono ?_); rintro e w1 ⟨rfl, hb⟩; (have HB := Lib.hid hb); clear hb)
    | (go_at_call 17; (with_reducible refine (HLEN.out _ (H.out.keep HB.out)).mono ?_); rintro e w2 ⟨rfl, hf⟩; (have HF := Lib.hid hf); clear hf))
  have hb2 := HB.out.trans (HF.out.below.mono HB.out.size)
  have ho := HF.out.row
  generalize hgg : w1.heap.size = g0 at ho ⊢
  have hsl0 := ho.sl bs.length (bs.length + 2) (by rw [List.length_append, nums_len]; simp) (by rw [List.length_append, nums_len]; simp) (by omega)
  have htk : (nums bs ++ [171, 172]).take bs.length = nums bs := by rw [← nums_len bs]; simp
  rw [htk] at hsl0
  have hvw := view_calls w2 (some ⟨g0, 0, none⟩) (bs.length + 2) bs hsl0 (fun h => by cases h) (fun x hx => by cases hx; exact ho.lt)
  have HVW := Lib.hid hvw
  have HO := Lib.hid ho
  have HB2 := Lib.hid hb2
  clear hvw ho hb2 HB HF HLEN hgg hsl0 htk
  by_cases he : (shE bs).1 ≠ 0
  · have H9 := Lib.hid (HVW.out.mono fun e w3 hq => (show ∃ i, e = .returned (.tuple #[.pointer none, .iface 119 (.pointer (some ⟨i, 0, none⟩))]) ∧ Below w2.heap.size w2 w3 by
      obtain ⟨hb, hc⟩ := hq
      rcases hc with ⟨_, v, h1, h2⟩ | ⟨h, _⟩
      · obtain ⟨i, rfl⟩ := h2.some he
        exact ⟨i, h1, hb⟩
      · exact absurd h he))
    clear HVW he
    go_upto_region 5 with (go_at_call 19; (with_reducible refine H9.out.mono ?_); rintro e w3 ⟨i, rfl, hb⟩; (have HB3 := Lib.hid (HB2.out.trans (hb.mono HB2.out.size))); clear hb)
    go_wp2
    go_ret
    exact ⟨rfl, HB3.out⟩
  have he0 : (shE bs).1 = 0 := by simpa using he
  have H9 := Lib.hid (HVW.out.mono fun e w3 hq => (show ∃ gd pa pc ea ec, e = .returned (.tuple #[.pointer (some ⟨gd, 0, none⟩), .nilIface]) ∧ DictM w3 gd (hdN bs) (hdW bs) pa pc (nums (hdP bs)) ea ec (nums (hdE bs)) ∧ Below w2.heap.size w2 w3 by
      obtain ⟨hb, hc⟩ := hq
      rcases hc with ⟨h, _⟩ | ⟨_, gd, pa, pc, ea, ec, _, h1, h2⟩
      · exact absurd he0 h
      · exact ⟨gd, pa, pc, ea, ec, h1, h2, hb⟩))
  clear HVW he he0
  go_upto_region 5 with (go_at_call 19; (with_reducible refine H9.out.mono ?_); rintro e w3 ⟨gd, pa, pc, ea, ec, rfl, hd, hb⟩; (have HB3 := Lib.hid (HB2.out.trans (hb.mono HB2.out.size))); (have HO3 := Lib.hid (HO.out.below hb HO.out.lt)); (have HD := Lib.hid hd); clear hb hd)
  clear H9
  have heb := hdE_len bs
  have hpl := HD.out.nN
  obtain ⟨N, hN⟩ : ∃ N, N = hdN bs := ⟨_, rfl⟩
  obtain ⟨W, hW⟩ : ∃ W, W = hdW bs := ⟨_, rfl⟩
  obtain ⟨P, hP⟩ : ∃ P, P = nums (hdP bs) := ⟨_, rfl⟩
  obtain ⟨E, hE⟩ : ∃ E, E = hdE bs := ⟨_, rfl⟩
  rw [← hN, ← hW, ← hP, ← hE] at HD
  rw [← hN] at hpl
  rw [← hE] at heb
  have hgw := fun i => get_wild P W E N i
  have hew := fun i => each_wild P W E N i
  have hrw := fun s => range_wild P W E N s
  have hget := fun X (hX : Below w3.heap.size w3 X) i hi => get_calls X gd N W pa pc P ea ec E (HD.out.keep hX) i hi
  have hfin := fun X (hX : Below w3.heap.size w3 X) s => find_calls X gd N W pa pc P ea ec E (HD.out.keep hX) s
  have hran := fun X (hX : Below w3.heap.size w3 X) s => range_calls X gd N W pa pc P ea ec E (HD.out.keep hX) s
  have hwal := fun X (hX : Below w3.heap.size w3 X) i hi => walked_calls X gd N W pa pc P ea ec E (HD.out.keep hX) i hi 40 (by omega) _ rfl
  simp only [show ((40 : Nat) : Int) = 40 from rfl] at hwal
  have hdl := dlen_calls w3 gd N W pa pc P ea ec (nums E) HD.out
  have HGW := Lib.hid hgw
  have HEW := Lib.hid hew
  have HRW := Lib.hid hrw
  have HGET := Lib.hid hget
  have HFIN := Lib.hid hfin
  have HRAN := Lib.hid hran
  have HWAL := Lib.hid hwal
  have HDL := Lib.hid hdl
  have HS3 := Lib.hid (H.out.keep HB3.out)
  have HI3 := Lib.hid (H2.out.keep HB3.out)
  have HT3 := Lib.hid (H3.out.keep HB3.out)
  clear hgw hew hrw hget hfin hran hwal hdl hN hW hP hE HD H H2 H3 HO HB2
  go_wp2_with (go_at_call 24; (with_reducible refine HDL.out.mono ?_); rintro e wz ⟨rfl, hwz⟩; subst hwz)
  clear HDL
  go_loopw [11] (fun iv wr => ∃ i : Nat, iv = .int .i64 (i : Nat) ∧ i ≤ n2 ∧ Below w3.heap.size w3 wr) (fun iv _ => n2 - (intOf iv).toNat)
  case atStart => exact ⟨0, rfl, Nat.zero_le _, Below.refl _ _⟩
  case round =>
    obtain ⟨i, rfl, hi, hb⟩ := hrel
    have HBR := Lib.hid hb
    clear hb
    by_cases hin : i < n2
    · obtain ⟨b, o, rfl, hck⟩ := HI3.out.cell i hin
      have hck2 : wr.cell? ⟨b, o + i, none⟩ = some (.int .i64 (zs.getD i 0)) := (HBR.out.cell (p := ⟨b, o + i, none⟩) (block_lt_of_cell hck)).trans hck
      have hkm : zs.getD i 0 ∈ zs := by
        rw [List.getD_eq_getElem?_getD, List.getElem?_eq_getElem (by rw [HLZ.out]; exact hin)]
        exact List.getElem_mem _
      have hkw := wf_i64 (HZ.out _ hkm)
      have hle2 := HI3.out.le
      obtain ⟨k, hk⟩ : ∃ k, k = zs.getD i 0 := ⟨_, rfl⟩
      rw [← hk] at hck2 hkw
      obtain ⟨g1, g2, g3⟩ := HGW.out k
      obtain ⟨e1, e2⟩ := HEW.out k
      have q1 := fun X hX => HGET.out X hX k hkw
      have q2 := fun X hX => HWAL.out X hX k hkw
      obtain ⟨R, hR⟩ : ∃ R, R = (eachF P W E N k).take 40 := ⟨_, rfl⟩
      have r1 := e1.take 40
      have r2 : ∀ x ∈ R, x.2.length ≤ bs.length := fun x hx => Nat.le_trans (e2 x (List.mem_of_mem_take (by rw [← hR]; exact hx))) heb
      have hRl : R.length ≤ 40 := by rw [hR]; exact List.length_take_le _ _
      rw [← hR] at r1
      simp only [← hR] at q2
      obtain ⟨S, hS⟩ : ∃ S, S = (getF P W E N k).1 := ⟨_, rfl⟩
      obtain ⟨B, hB⟩ : ∃ B, B = (getF P W E N k).2 := ⟨_, rfl⟩
      rw [← hS] at g1 g3
      rw [← hB] at g2 g3
      simp only [← hS, ← hB] at q1
      have q3 : ∀ X, Below w3.heap.size w3 X → Calls Try.prog 28 #[.pointer (some ⟨gd, 0, none⟩), .int .i64 k, .int .i64 40] X fun e w' => ∃ ga gc, e = .returned (.tuple #[.slice ga R.length gc, .bool true]) ∧ R.length ≤ 40 ∧ (∀ j (hj : j < R.length), ∃ g, ga = some ⟨g, 0, none⟩ ∧ g < w'.heap.size ∧ w'.cell? ⟨g, j * 2, none⟩ = some (.int .i64 (R[j].1 : Nat)) ∧ w'.cell? ⟨g, j * 2 + 1, none⟩ = some (.string ⟨R[j].2.toArray⟩)) ∧ Below X.heap.size X w' := fun X hX => by
        refine (q2 X hX).mono ?_
        rintro e w' ⟨v, rfl, how, hb⟩
        obtain ⟨ga, gc, rfl⟩ := ownsRow_slice how
        refine ⟨ga, gc, rfl, hRl, fun j hj => ?_, hb⟩
        have hs := sawCs_at R j hj
        rcases how.2 with ⟨hv, h0⟩ | ⟨g, cap, cur, hv, h1, h2, h3⟩
        · omega
        · simp at hv
          obtain ⟨rfl, rfl⟩ := hv
          have x1 := World.ownsRow.cells how (g := g) rfl
          refine ⟨g, rfl, lt_of_block h2, ?_, ?_⟩
          · have := x1 (j * 2) _ hs.1; rw [Addr.add_lit, Nat.zero_add] at this; exact this
          · have := x1 (j * 2 + 1) _ hs.2; rw [Addr.add_lit, Nat.zero_add] at this; exact this
      have Q1 := Lib.hid q1
      have Q2 := Lib.hid q3
      have R1 := Lib.hid r1
      have R2 := Lib.hid r2
      have G1 := Lib.hid (Nat.le_trans g1 heb)
      have HDW := HBR
      clear q1 q2 q3 r1 r2 g1 e1 e2 hR hS hB hkm hk hck
      go_upto_region 14 with (go_at_call 25; (with_reducible refine (Q1.out _ HDW.out).mono ?_); rintro e wz ⟨rfl, hb⟩; (have HDY := Lib.hid (HDW.out.trans (hb.mono HDW.out.size))); clear hb HDW; (have HDW := HDY); clear HDY)
      obtain ⟨sB, hsB⟩ : ∃ sB : ByteArray, sB = ⟨S.toArray⟩ := ⟨_, rfl⟩
      have hsz : sB.size ≤ bs.length := by rw [hsB]; exact G1.out
      have hz0 : B = false → sB = ⟨#[]⟩ := fun h => by rw [hsB, g3 h]
      rw [← hsB]
      have hcs : (B = true ∧ 0 ≤ k ∧ k < N) ∨ (B = false ∧ sB = ⟨#[]⟩) := by
        cases B with
        | true => exact .inl ⟨rfl, g2 rfl⟩
        | false => exact .inr ⟨rfl, hz0 rfl⟩
      clear hsB g2 g3 G1 hz0
      rcases hcs with ⟨rfl, k0, k1⟩ | ⟨rfl, rfl⟩
      all_goals
        go_upto_region 17 with (go_at_call 28; (with_reducible refine (Q2.out _ HDW.out).mono ?_); rintro e w5 ⟨ga, gc, rfl, hRl, hcl, hb⟩; (have HCL := Lib.hid hcl); (have HB5 := Lib.hid (HDW.out.trans (hb.mono HDW.out.size))); clear hb hcl)
        clear Q1 Q2 HDW HBR hck2
        go_wp2_with fail
        go_loop [19, 20] (fun lv jv => ∃ (j : Nat) (x : Int), jv = .int .i64 (j : Nat) ∧ j ≤ R.length ∧ lv = .int .i64 x ∧ ∀ h : j < R.length, x < (R[j].1 : Int)) (fun _ jv => R.length - (intOf jv).toNat)
        case atStart => exact ⟨0, _, rfl, Nat.zero_le _, rfl, fun h => by have := (R1.out.at 0 h).1; omega⟩
        case round =>
          obtain ⟨j, x, rfl, hj, rfl, hx⟩ := hrel
          have HX := Lib.hid hx
          clear hx
          by_cases hjR : j < R.length
          · obtain ⟨g, rfl, hgl, y1, y2⟩ := HCL.out j hjR
            have hx9 := HX.out hjR
            obtain ⟨p1, p2, p3⟩ := R1.out.at j hjR
            have ht9 : (⟨R[j].2.toArray⟩ : ByteArray).size ≤ bs.length := R2.out _ (List.getElem_mem hjR)
            obtain ⟨tB, htB⟩ : ∃ tB : ByteArray, tB = ⟨R[j].2.toArray⟩ := ⟨_, rfl⟩
            obtain ⟨y, hy⟩ : ∃ y, y = R[j].1 := ⟨_, rfl⟩
            rw [← htB] at y2 ht9
            rw [← hy] at y1 hx9 p1 p2
            have HNX := Lib.hid (show ∀ h : j + 1 < R.length, (y : Int) < (R[j + 1].1 : Int) from fun h => by rw [hy]; have := p3 h; omega)
            clear p3 hy htB
            go_wp2_with fail
            first
              | done
              | (go_round
                 case rel => exact ⟨j + 1, _, by go_num, by omega, rfl, HNX.out⟩
                 case measure => simp [intOf]; omega)
          · obtain rfl : j = R.length := by omega
            go_wp2_with fail
            go_roundw
            case rel => exact ⟨i + 1, by go_num, by omega, HB5.out⟩
            case measure => simp [intOf]; omega
    · obtain rfl : i = n2 := by omega
      clear hin hi
      go_wp2
      go_loopw [21] (fun iv wq => ∃ i : Nat, iv = .int .i64 (i : Nat) ∧ i ≤ n3 ∧ Below w3.heap.size w3 wq) (fun iv _ => n3 - (intOf iv).toNat)
      case atStart => exact ⟨0, rfl, Nat.zero_le _, HBR.out⟩
      case round =>
        obtain ⟨i, rfl, hi, hb⟩ := hrel
        have HDW := Lib.hid hb
        clear hb
        by_cases hin : i < n3
        · obtain ⟨b, o, rfl, hck⟩ := HT3.out.cell i hin
          have hkl := block_lt_of_cell hck
          have hle3 := HT3.out.le
          obtain ⟨sB, hsB⟩ : ∃ sB : ByteArray, sB = ⟨(L.getD i []).toArray⟩ := ⟨_, rfl⟩
          rw [← hsB] at hck
          obtain ⟨x1, x2, x3⟩ := HRW.out sB.data.toList
          have q1 := fun X hX => HFIN.out X hX sB
          have q2 := fun X hX => HRAN.out X hX sB
          obtain ⟨F, hF⟩ : ∃ F, F = (rangeF P W E N sB.data.toList).1 := ⟨_, rfl⟩
          obtain ⟨G, hG⟩ : ∃ G, G = (rangeF P W E N sB.data.toList).2 := ⟨_, rfl⟩
          obtain ⟨M, hM⟩ : ∃ M, M = (findF P W E N sB.data.toList).1 := ⟨_, rfl⟩
          obtain ⟨B, hB⟩ : ∃ B, B = (findF P W E N sB.data.toList).2 := ⟨_, rfl⟩
          rw [← hF, ← hG] at x1
          rw [← hG] at x2
          rw [← hM] at x3
          simp only [← hF, ← hG] at q2
          simp only [← hM, ← hB] at q1
          have hcX : ∀ X, Below w3.heap.size w3 X → X.cell? ⟨b, o + i, none⟩ = some (.string sB) := fun X hX => (hX.cell (p := ⟨b, o + i, none⟩) hkl).trans hck
          have Q1 := Lib.hid q1
          have Q2 := Lib.hid q2
          have HCX := Lib.hid hcX
          clear q1 q2 hcX hF hG hM hB hsB hck hkl
          have z1 := HCX.out _ HDW.out
          go_upto_region 30 with (go_at_call 26; (with_reducible refine (Q1.out _ HDW.out).mono ?_); rintro e wz ⟨rfl, hb⟩; (have HDY := Lib.hid (HDW.out.trans (hb.mono HDW.out.size))); clear hb HDW z1; (have HDW := HDY); clear HDY)
          have z1 := HCX.out _ HDW.out
          go_upto_region 31 with (go_at_call 26; (with_reducible refine (Q1.out _ HDW.out).mono ?_); rintro e wz ⟨rfl, hb⟩; (have HDY := Lib.hid (HDW.out.trans (hb.mono HDW.out.size))); clear hb HDW z1; (have HDW := HDY); clear HDY)
          have z1 := HCX.out _ HDW.out
          go_upto_region 32 with (go_at_call 27; (with_reducible refine (Q2.out _ HDW.out).mono ?_); rintro e wz ⟨rfl, hb⟩; (have HDY := Lib.hid (HDW.out.trans (hb.mono HDW.out.size))); clear hb HDW z1; (have HDW := HDY); clear HDY)
          have z1 := HCX.out _ HDW.out
          go_upto_region 33 with (go_at_call 27; (with_reducible refine (Q2.out _ HDW.out).mono ?_); rintro e wz ⟨rfl, hb⟩; (have HDY := Lib.hid (HDW.out.trans (hb.mono HDW.out.size))); clear hb HDW z1; (have HDW := HDY); clear HDY)
          clear Q1 Q2 HCX
          cases B
          all_goals
            go_wp2_with fail
            go_roundw
            case rel => exact ⟨i + 1, by go_num, by omega, HDW.out⟩
            case measure => simp [intOf]; omega
        · obtain rfl : i = n3 := by omega
          clear hin hi
          have hbk := backD_calls wr g0 a bs.length c (nums bs) (HO3.out.below HDW.out HO3.out.lt) (HS3.out.keep HDW.out) hbl
          have HBK := Lib.hid hbk
          clear hbk
          go_wp2_with (go_at_call 21; (with_reducible refine HBK.out.mono ?_); rintro e wz ⟨rfl, m, hm⟩; subst hm)
          go_ret
          exact ⟨by simp, HB3.out.trans ((below_drewN HDW.out m).mono HB3.out.size)⟩
end Go.Proofs.Ytjgcmnppiaikcaa
/- DictWild at what comes in. -/
namespace Go.Proofs.Ytjgcmnppiaikcaa
open Go.RowKit Go.Tk
theorem dictwild_go (w : World) (a : Option Addr) (n c : Nat) (z : List Int) (h : IsRow .u8 w a n c z) (hb : c * 1 ≤ 140737488351232) (a2 : Option Addr) (n2 c2 : Nat) (z2 : List Int) (h2 : IsRow .i64 w a2 n2 c2 z2) (hb2 : c2 * 8 ≤ 140737488351232)
    (a3 : Option Addr) (n3 c3 : Nat) (L : List (List UInt8)) (h3 : SlS w a3 n3 c3 L) (hnil : a3 = none → c3 = 0) (ht : TxtOk L) (hc8 : c3 ≤ 8796093022208) :
    Calls Try.prog 9 #[.slice a n c, .slice a2 n2 c2, .slice a3 n3 c3] w fun e w' => e = .returned (.bool true) ∧ Below w.heap.size w w' := by
  obtain ⟨hsl, hnil, hwf⟩ := h.sl
  obtain ⟨hsl2, hnil2, hwf2⟩ := h2.sl
  obtain ⟨bs, hnum⟩ := bytes_of (zs := z.take n) (fun x hx => wf_u8 (hwf x hx))
  rw [← hnum] at hsl
  have hle := hsl.le
  have hbn : bs.length = n := by have := hsl.len; rwa [nums_len] at this
  subst hbn
  exact dictwild_bytes w a c bs hsl (by omega) a2 n2 c2 _ hsl2 hwf2 a3 n3 c3 L h3
end Go.Proofs.Ytjgcmnppiaikcaa
