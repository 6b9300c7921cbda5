/- The dictionary of texts that rise, made by the program alone. -/
import Derived.Test.YtjgcmnppiaikcaaDkX
import Derived.Test.YtjgcmnppiaikcaaDkY
import Derived.Test.YtjgcmnppiaikcaaDlR
set_option linter.unusedVariables false
set_option linter.unusedSimpArgs false
namespace Go.Proofs.Ytjgcmnppiaikcaa
open Go.RowKit Go.Tk
theorem bytes_of {zs : List Int} (h : ∀ x ∈ zs, 0 ≤ x ∧ x < 256) : ∃ b : List UInt8, nums b = zs := by
  refine ⟨zs.map fun x => UInt8.ofNat x.toNat, ?_⟩
  unfold nums
  rw [List.map_map]
  conv => rhs; rw [← List.map_id zs]
  apply List.map_congr_left
  intro x hx
  have := h x hx
  simp only [Function.comp, id]
  rw [UInt8.toNat_ofNat']
  omega
theorem entB_u8 (L : List (List UInt8)) (i : Nat) : ∀ x ∈ entB L i, 0 ≤ x ∧ x < 256 := by
  intro x hx
  unfold entB at hx
  split at hx
  · rcases List.mem_append.1 hx with h | h
    · exact vz_u8 _ x h
    · exact nums_u8 _ x h
  · rcases List.mem_append.1 hx with h | h
    · exact vz_u8 _ x h
    · rcases List.mem_append.1 h with h | h
      · exact vz_u8 _ x h
      · exact nums_u8 _ x h
theorem area_u8 (L : List (List UInt8)) : ∀ i, ∀ x ∈ areaN L i, 0 ≤ x ∧ x < 256
  | 0, x, hx => by simp [areaN] at hx
  | i + 1, x, hx => by
    simp only [areaN] at hx
    rcases List.mem_append.1 hx with h | h
    · exact area_u8 L i x h
    · exact entB_u8 L i x h
theorem u8_mem {zs : List Int} (h : U8 zs) : ∀ x ∈ zs, 0 ≤ x ∧ x < 256 := by
  intro x hx
  obtain ⟨i, hi, rfl⟩ := List.mem_iff_getElem.1 hx
  have := h i hi
  simpa [hi] using this
theorem dictB_u8 {L : List (List UInt8)} (hG : Good L) : ∀ x ∈ dictB L, 0 ≤ x ∧ x < 256 := by
  intro x hx
  unfold dictB at hx
  rcases List.mem_append.1 hx with h | h
  · exact vz_u8 _ x h
  rcases List.mem_append.1 h with h | h
  · exact vz_u8 _ x h
  rcases List.mem_append.1 h with h | h
  · rw [packD_eq hG] at h; exact u8_mem (packTo_u8 _ _ _ _) x h
  · exact area_u8 L _ x h
theorem dictB_len {L : List (List UInt8)} (hG : Good L) : (dictB L).length ≤ 67108864 := by
  have hA := area_small hG.sz hG.tt L.length (Nat.le_refl _)
  have hn := tot_len L
  have ht := hG.tt
  have hw := (width_range hG).2
  have h1 := (vz_len (L.length : Nat)).2
  have h2 := (vz_len ((areaN L L.length).length : Nat)).2
  have hp := packD_len hG
  have hm : (L.length + 15) / 16 * (widthD L).toNat ≤ 125001 * 24 := Nat.mul_le_mul (by omega) hw
  unfold dictB
  simp only [List.length_append]
  generalize (L.length + 15) / 16 * (widthD L).toNat = q at hp hm
  omega
theorem chk_good {L : List (List UInt8)} (hG : Good L) : chkE L = 0 := by
  unfold chkE
  rw [long_no hG.sz, rise_yes hG.up]
  rfl
theorem build_good {L : List (List UInt8)} (hG : Good L) : buildE L 67108864 = 0 ∧ buildO L 67108864 = dictB L := by
  have h := dictB_len hG
  have he : buildE L 67108864 = 0 := by unfold buildE; rw [if_neg (by rw [chk_good hG]; simp), if_neg (by omega)]
  exact ⟨he, by unfold buildO; rw [if_pos he]⟩
theorem numD_calls (w : World) (x : Int) : Calls Try.prog 13 #[.int .i64 x] w fun e w' => e = .returned (.int .i64 x) ∧ w = w' := by
  go_enter Try.func13, Try.ntmps13
  go_wp2
  go_ret
  exact ⟨rfl, rfl⟩
set_option maxRecDepth 100000 in
set_option maxHeartbeats 2000000 in
theorem made_calls (w : World) (a : Option Addr) (n c : Nat) (L : List (List UInt8)) (h : SlS w a n c L) (ht : TxtOk L) (hG : Good L) :
    Calls Try.prog 23 #[.slice a n c] w fun e w' => ∃ gd pa pc ea ec eb v, e = .returned (.tuple #[.pointer (some ⟨gd, 0, none⟩), v]) ∧ nums eb = areaN L L.length ∧ DictM w' gd L.length (widthD L).toNat pa pc (packD L) ea ec (nums eb) ∧ OwC .u8 5 w.heap.size w' v (dictB L) ∧ Below w.heap.size w w' := by
  have hbl := dbuild_calls w a n c L h ht hG.tt 67108864 ⟨by decide, by decide⟩
  rw [(build_good hG).1, (build_good hG).2] at hbl
  obtain ⟨b, hb⟩ := bytes_of (dictB_u8 hG)
  have hob := open_built hG hb
  have HB := Lib.hid hbl
  have HOB := Lib.hid hob
  have HBB := Lib.hid hb
  clear hbl hob h ht
  have hbz : (dictB L).length = b.length := by rw [← hb, nums_len]
  have hop : ∀ w1 x, OwC .u8 5 w.heap.size w1 (.slice x b.length b.length) (dictB L) → SlI .u8 w1 x b.length b.length (nums b) → (x = none → b.length = 0) →
      Calls Try.prog 18 #[.slice x b.length b.length] w1 fun e w' => ∃ gd pa pc ea ec, e = .returned (.tuple #[.pointer (some ⟨gd, 0, none⟩), .nilIface]) ∧ Below w1.heap.size w1 w' ∧ DictM w' gd L.length (widthD L).toNat pa pc (packD L) ea ec (nums (hdE b)) := fun w1 x ho hs hn => by
    have := open_yes w1 x b.length b hs hn (fun y hy => by subst hy; exact (ho.lt y.block rfl).2) (by rw [HOB.out.1])
    refine this.mono ?_
    rintro e w' ⟨hb1, h⟩
    rw [HOB.out.2.1] at h
    rcases h with ⟨h0, _⟩ | ⟨_, gd, pa, pc, ea, ec, h1, h2, h3⟩
    · exact absurd rfl h0
    · rw [HOB.out.2.2.1, HOB.out.2.2.2.1, HOB.out.2.2.2.2.1] at h3
      exact ⟨gd, pa, pc, ea, ec, h2, hb1, h3⟩
  have HOP := Lib.hid hop
  have HBZ := Lib.hid hbz
  have HG := Lib.hid hG
  clear hop hbz hb hG
  go_enter Try.func23, Try.ntmps23
  go_wp2_with (first
    | (go_at_call 11; (with_reducible refine HB.out.mono ?_); rintro e w1 ⟨v1, rfl, hob, hb1⟩; obtain ⟨x1, hv1, hs1, hn1⟩ := OwC.slN hob; rw [HBZ.out] at hv1; rw [HBZ.out, ← HBB.out] at hs1; rw [HBZ.out] at hn1; subst hv1; (have HO1 := Lib.hid hob); (have HS1 := Lib.hid hs1); (have HN1 := Lib.hid hn1); (have HB1 := Lib.hid hb1); clear hob hs1 hn1 hb1)
    | (go_at_call 13; refine (numD_calls _ _).mono ?_; rintro e x ⟨rfl, rfl⟩)
    | (go_at_call 18; (with_reducible refine (HOP.out _ _ HO1.out HS1.out HN1.out).mono ?_); rintro e w2 ⟨gd, pa, pc, ea, ec, rfl, hb2, hd2⟩; (have HB2 := Lib.hid hb2); (have HD2 := Lib.hid hd2); clear hb2 hd2))
  go_ret2
  have HB2w := HB1.out.trans (HB2.out.mono HB1.out.size)
  refine ⟨gd, pa, pc, ea, ec, hdE b, _, rfl, HOB.out.2.2.2.2.2, HD2.out, ?_, HB2w⟩
  exact OwC.kept2 HO1.out (Kept.none_of_below HB2.out) (fun _ _ h => h)
end Go.Proofs.Ytjgcmnppiaikcaa
