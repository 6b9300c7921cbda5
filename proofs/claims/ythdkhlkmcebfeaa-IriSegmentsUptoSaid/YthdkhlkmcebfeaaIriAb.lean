/- What a reference means at a base, in plain words; above, last. -/
import Derived.Test.YthdkhlkmcebfeaaIriSp
import Derived.Test.YthdkhlkmcebfeaaIriRClean
import Derived.Test.YthdkhlkmcebfeaaIriRef
import Derived.IntWalk
set_option linter.unusedVariables false
set_option linter.unusedSimpArgs false
namespace Go.Tk
open Go Go.RowKit
theorem clN_len : ∀ (n : Nat) (p out : List UInt8), (clN n p out).length ≤ p.length + out.length
  | 0, p, out => by unfold clN; omega
  | n + 1, p, out => by
    unfold clN
    split
    · omega
    · have h1 := clN_len n (clS p out).1 (clS p out).2
      have h2 := clS_len p out
      omega
theorem cl_len (p : List UInt8) : (cl p []).length ≤ p.length := by have := clN_len p.length p []; unfold cl; simpa using this
/-- A base's path up to its last slash, for a path behind it. -/
def abv (b : Prts) : List UInt8 := if (b.ha && b.pa.isEmpty) = true then [47] else b.pa.take (lastS 47 b.pa)
theorem abv_len (b : Prts) : (abv b).length ≤ b.pa.length + 1 := by
  unfold abv
  split
  · simp
  · simp; omega
/-- The path of what a reference with a path of its own means. -/
def tgPath (b r : Prts) : List UInt8 := if r.pa.head? = some 47 then cl r.pa [] else cl (abv b ++ r.pa) []
/-- What a reference means at a base: its parts. -/
def targetP (b r : Prts) : Prts :=
  if r.sc.isEmpty = false then { r with pa := cl r.pa [] }
  else if r.ha = true then { r with pa := cl r.pa [], sc := b.sc }
  else if r.pa.isEmpty = true then
    (if r.hq = true then { r with sc := b.sc, au := b.au, ha := b.ha, pa := b.pa } else { r with sc := b.sc, au := b.au, ha := b.ha, pa := b.pa, qu := b.qu, hq := b.hq })
  else { r with sc := b.sc, au := b.au, ha := b.ha, pa := tgPath b r }
def Prts.sum (p : Prts) : Nat := p.sc.length + p.au.length + p.pa.length + p.qu.length + p.fr.length
theorem tgPath_len (b r : Prts) : (tgPath b r).length ≤ b.pa.length + r.pa.length + 1 := by
  unfold tgPath
  split
  · have := cl_len r.pa; omega
  · have := cl_len (abv b ++ r.pa)
    have h2 := abv_len b
    simp only [List.length_append] at this
    omega
theorem targetP_sum (b r : Prts) : (targetP b r).sum ≤ b.sum + r.sum + 1 := by
  have h1 := cl_len r.pa
  have h2 := tgPath_len b r
  unfold targetP Prts.sum
  split
  · simp only; omega
  · split
    · simp only; omega
    · split
      · split <;> (simp only; omega)
      · simp only; omega
theorem splitP_sum (l : List UInt8) : (splitP l).sum ≤ 5 * l.length := by
  have a1 : (Prts.s1 l).length ≤ l.length := by unfold Prts.s1; split <;> simp
  have a2 : (Prts.s2 (Prts.s1 l)).length ≤ (Prts.s1 l).length := by unfold Prts.s2; split <;> simp
  have a3 : (Prts.s3 (Prts.s2 (Prts.s1 l))).length ≤ (Prts.s2 (Prts.s1 l)).length := by unfold Prts.s3; simp
  have a4 : (Prts.s4 (Prts.s3 (Prts.s2 (Prts.s1 l)))).length ≤ (Prts.s3 (Prts.s2 (Prts.s1 l))).length := by unfold Prts.s4; split <;> simp
  have b1 : (Prts.auth (Prts.s1 l)).length ≤ (Prts.s1 l).length := by unfold Prts.auth; split <;> simp <;> omega
  have b2 : (Prts.path (Prts.s2 (Prts.s1 l))).length ≤ (Prts.s2 (Prts.s1 l)).length := by unfold Prts.path; simp; omega
  have b3 : (Prts.query (Prts.s3 (Prts.s2 (Prts.s1 l)))).length ≤ (Prts.s3 (Prts.s2 (Prts.s1 l))).length := by unfold Prts.query; split <;> simp <;> omega
  have b4 : (Prts.frag (Prts.s4 (Prts.s3 (Prts.s2 (Prts.s1 l))))).length ≤ (Prts.s4 (Prts.s3 (Prts.s2 (Prts.s1 l)))).length := by unfold Prts.frag; split <;> simp
  unfold splitP Prts.sum
  simp only [List.length_take]
  omega
theorem irE_size {l : List UInt8} (h : irE l = 0) : l.length ≤ 65536 := by
  have h2 : refE l = 0 := by
    unfold irE at h
    split at h
    · assumption
    · exact h
  unfold refE at h2
  split at h2
  · simp at h2
  · omega
theorem refE_size' {l : List UInt8} (h : refE l = 0) : l.length ≤ 65536 := by
  unfold refE at h
  split at h
  · simp at h
  · omega
theorem lastIdx_lastS (s : ByteArray) (x : UInt8) : Lib.lastIndexByte s (x.toNat : Int) = (lastS x s.data.toList : Int) - 1 := by
  rcases Lib.lastIndexByte_spec s (x.toNat : Int) with ⟨h, hn⟩ | ⟨i, hi, h, hc, hn⟩
  · rw [h, lastS_none x s.data.toList]
    · rfl
    · intro b hb e
      obtain ⟨j, hj, hj2⟩ := List.getElem_of_mem hb
      refine hn j (by rw [Lib.size_eq]; exact hj) ?_
      have : s.data[j]! = b := by rw [← hj2]; simp at hj; simp [hj]
      rw [this, e]
  · have hl : i < s.data.toList.length := by rw [← Lib.size_eq]; exact hi
    have hsz : i < s.data.size := by simpa using hl
    rw [h, lastS_at x s.data.toList i hl]
    · push_cast; omega
    · have : s.data[i]! = s.data.toList[i] := by rw [getElem!_pos s.data i hsz]; simp
      rw [this] at hc
      exact UInt8.toNat.inj (by exact_mod_cast hc)
    · intro b hb e
      obtain ⟨j, hj, hj2⟩ := List.getElem_of_mem hb
      have hj' : i + 1 + j < s.data.toList.length := by rw [List.length_drop] at hj; omega
      refine hn (i + 1 + j) (by omega) (by rw [Lib.size_eq]; exact hj') ?_
      have : s.data[i + 1 + j]! = b := by rw [← hj2, List.getElem_drop]; simp at hj'; simp [hj']
      rw [this, e]
end Go.Tk
namespace Go.Proofs.Ythdkhlkmcebfeaa
open Go.RowKit Go.Tk
theorem lastSl_calls (s : ByteArray) (x : Int) (w : World) (hs : s.size ≤ 1000000000000000) (hx : x = (lastS 47 s.data.toList : Int) - 1) : Calls Try.prog 83 #[.string s, .int .u8 47] w fun e w' => e = .returned (.int .i64 x) ∧ w' = w := by
  subst hx
  have h := Try.strings_LastIndexByte s 47 (by omega) w
  have e := lastIdx_lastS s 47
  rw [show ((47 : UInt8).toNat : Int) = 47 from rfl] at e
  rw [e] at h
  exact h
set_option maxHeartbeats 1000000 in
theorem above_calls (sc au pa qu fr : List UInt8) (ha hq hf : Bool) (w : World) (hz : pa.length ≤ 1000000000000000) :
    Calls Try.prog 70 #[.agg #[.string ⟨sc.toArray⟩, .string ⟨au.toArray⟩, .string ⟨pa.toArray⟩, .string ⟨qu.toArray⟩, .string ⟨fr.toArray⟩, .bool ha, .bool hq, .bool hf]] w fun e w' => e = .returned (.string ⟨(abv ⟨sc, au, pa, qu, fr, ha, hq, hf⟩).toArray⟩) ∧ Below w.heap.size w w' := by
  have hA : abv ⟨sc, au, pa, qu, fr, ha, hq, hf⟩ = if (ha && pa.isEmpty) = true then [47] else pa.take (lastS 47 pa) := rfl
  rw [hA]
  have hle := lastS_le 47 pa
  obtain ⟨bp, hbp⟩ : ∃ bp : ByteArray, bp = ⟨pa.toArray⟩ := ⟨_, rfl⟩
  have hl : bp.data.toList = pa := by rw [hbp]
  have hsz : bp.size = pa.length := by rw [Lib.size_eq, hl]
  rw [← hbp]
  obtain ⟨k, hk⟩ : ∃ k, k = lastS 47 pa := ⟨_, rfl⟩
  obtain ⟨x, hx⟩ : ∃ x : Int, x = (k : Int) - 1 := ⟨_, rfl⟩
  have hlast := fun w => lastSl_calls bp x w (by omega) (by rw [hl, hx, hk])
  have hkb : k ≤ bp.size := by omega
  have hsb : bp.size ≤ 1000000000000000 := by omega
  have hw : IntKind.i64.wrap (x + 1) = (k : Int) := by rw [hx, show (k : Int) - 1 + 1 = (k : Int) by omega]; exact IntWalk.i64_in _ (by omega)
  rw [← hk]
  have he : bp.toList.isEmpty = pa.isEmpty := by rw [← hl, Lib.toList_data]
  have hex : bp.extract 0 k = ⟨(pa.take k).toArray⟩ := by rw [extract_take, hl]
  have HLA := Lib.hid hlast
  have HEX := Lib.hid hex
  have HE := Lib.hid he
  clear hA hl hsz hbp hk hx hlast hex hle hz he
  by_cases h0 : (ha && pa.isEmpty) = true
  · rw [Bool.and_eq_true] at h0
    obtain ⟨rfl, h1⟩ := h0
    have h2 : bp.toList.isEmpty = true := HE.out.trans h1
    have H1 := Lib.hid h1
    clear h1
    go_enter Try.func70, Try.ntmps70
    go_wp2_with fail
    go_ret
    exact ⟨rfl, (Below.refl _ _).alloc (Nat.le_refl _) _⟩
  · have H0 := Lib.hid h0
    have h2 : ha = false ∨ (ha = true ∧ bp.toList.isEmpty = false) := by
      cases ha with
      | false => exact .inl rfl
      | true => right; refine ⟨rfl, ?_⟩; rw [HE.out]; simpa using h0
    clear h0
    rcases h2 with rfl | ⟨rfl, h2⟩
    all_goals
      go_enter Try.func70, Try.ntmps70
      go_wp2_with fail
      go_quiet ((go_at_call 83; exact Calls.quiet_of_same (HLA.out _)))
      go_wp2_with fail
      go_ret
      exact ⟨congrArg (fun b => Ending.returned (.string b)) HEX.out, Go.Tk.below_drewN ((Below.refl _ _).alloc (Nat.le_refl _) _) _⟩
theorem rlast_calls (s : ByteArray) (w : World) (hs : s.size ≤ 9223372036854775807) :
    Calls Try.prog 71 #[.string s] w fun e w' => e = .returned (.int .i64 (lastS 47 s.data.toList : Nat)) ∧ w = w' := by
  go_enter Try.func71, Try.ntmps71
  go_wp2
  go_loop [3] (fun i => ∃ k : Nat, k ≤ s.size ∧ i = .int .i64 (k : Nat) ∧ ∀ b ∈ s.data.toList.drop k, b ≠ 47) (fun i => (intOf i).toNat)
  case atStart => exact ⟨s.size, Nat.le_refl _, rfl, by rw [List.drop_of_length_le (by simp)]; simp⟩
  case round =>
    obtain ⟨k, hk, rfl, ht⟩ := hrel
    have HT := Lib.hid ht
    clear ht
    cases k with
    | zero =>
      go_wp2
      go_ret
      refine ⟨ret_int ?_, rfl⟩
      rw [lastS_none 47 _ (by simpa using HT.out)]; rfl
    | succ m =>
      have em : ((m + 1 : Nat) : Int) = (m : Int) + 1 := by omega
      rw [em]
      clear em
      have hm : m < s.size := by omega
      have hml : m < s.data.toList.length := by simpa using hm
      by_cases he : s[m] = 47
      · have hb : ((s[m].toNat : Int) == 47) = true := by rw [he]; rfl
        have HE := Lib.hid he
        clear he
        go_wp2
        go_ret
        refine ⟨ret_int ?_, rfl⟩
        rw [lastS_at 47 _ m hml (by simp only [Array.getElem_toList]; exact HE.out) HT.out]; simp
      · have hb : ((s[m].toNat : Int) == 47) = false := by
          rw [beq_eq_false_iff_ne]; intro h; exact he (UInt8.toNat.inj (by simpa using (by omega : s[m].toNat = 47)))
        have HE := Lib.hid he
        clear he
        go_wp2
        go_round
        case rel => exact ⟨m, by omega, by go_num, drop_step hml HT.out (by simp only [Array.getElem_toList]; exact HE.out)⟩
        case measure => simp [intOf]
end Go.Proofs.Ythdkhlkmcebfeaa
