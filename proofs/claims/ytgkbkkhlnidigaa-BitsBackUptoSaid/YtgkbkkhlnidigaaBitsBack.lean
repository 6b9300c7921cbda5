/- BitsBack: what was written is read again, call by call; a byte less is missed. -/
import Derived.Test.YtgkbkkhlnidigaaBitsPut
import Derived.Deep.DeepCutAuto
import Derived.Deep.CutBlock
namespace Go.Proofs.Ytgkbkkhlnidigaa
open Go.RowKit Go.Tk
/-- A buffer beside a row of calls. -/
structure BackM (W w : World) (p : Nat) (M : Int) (st : List Int × Bool) (v pv : Value) (l : List OpV) : Prop where
  B : BufB w W.heap.size p M st v
  P : PutOwn W.heap.size w pv l
  D : ∀ k, Fp p v k → pv.ownBlock ≠ some k
  bel : Below W.heap.size W w
section
variable {W w w' : World} {p : Nat} {M : Int} {st st' : List Int × Bool} {v pv pv' : Value} {l l' : List OpV}
theorem PutOwn.lt {base : Nat} (h : PutOwn base w v l) : ∀ g, v.ownBlock = some g → base ≤ g ∧ g < w.heap.size := World.ownsRow.lt h
theorem BackM.put (h : BackM W w p M st v pv l) {r : Ending} (hp : PutBufB w W.heap.size p M st' v r w') : ∃ v', r = .returned (.tuple #[]) ∧ BackM W w' p M st' v' pv l ∧ Kept (Fp p v) w w' := by
  obtain ⟨v', hr, hB, hK, hS⟩ := hp
  refine ⟨v', hr, ⟨hB, h.P.kept hK (fun g hg hf => h.D g hf hg), fun k hk hg => ?_, h.bel.trans (hK.below h.bel.size (fun k hk => (h.B.lt k hk).1))⟩, hK⟩
  rcases Fp.step hS hk with h1 | h1
  · exact h.D k h1 hg
  · have := (h.P.lt k hg).2; omega
theorem BackM.app (h : BackM W w p M st v pv l) (hP : PutOwn W.heap.size w' pv' l') (hg : w.grownBy w' pv.ownBlock) (hS : OwnStep w pv pv') : BackM W w' p M st v pv' l' := by
  have hK := Kept.of_grown hg
  refine ⟨h.B.kept hK (fun k hk hf => h.D k hk hf), hP, fun k hk hf => ?_, h.bel.trans (hK.below h.bel.size (fun k hk => (h.P.lt k hk).1))⟩
  rcases hS with e | ⟨g, e, hg⟩
  · exact h.D k hk (e ▸ hf)
  · rw [e] at hf; have := Option.some.inj hf; have := (h.B.lt k hk).2; omega
theorem BackM.keep (h : BackM W w p M st v pv l) (hK : Kept (fun _ => False) w w') : BackM W w' p M st v pv l :=
  ⟨h.B.kept hK (fun _ _ => id), h.P.kept hK (fun _ _ => id), h.D, h.bel.trans (hK.below h.bel.size (fun _ h => h.elim))⟩
end
structure BackF (on : Nat) (ops : Nat → OpV) (st : List Int × Bool) (l : List OpV) (n : Nat) : Prop where
  src : ∀ o ∈ l, ∃ i, i < on ∧ o = ops i
  rd : ∀ o ∈ l, OpR o
  fit : st.2 = false → st.1 = l.flatMap encO
  len : st.1.length ≤ n * 1048600
  cnt : l.length ≤ n
theorem encO_len {o : OpV} (h : o.bz.length = o.bl) : (encO o).length ≤ o.bl + 10 := by
  unfold encO
  split
  · simp
  · split
    · omega
    · split
      · have := (vz_len o.n).2; omega
      · split
        · rw [fz_len]; have := oct_le o.k; omega
        · simp
theorem putF_facts (M : Int) (st : List Int × Bool) (ns : List Int) : st.1.length ≤ (putF M st ns).1.length ∧ (putF M st ns).1.length ≤ st.1.length + ns.length ∧ ((putF M st ns).2 = false → st.2 = false ∧ (putF M st ns).1 = st.1 ++ ns) := by
  unfold putF
  split
  · rename_i h; exact ⟨by omega, by omega, fun h2 => by rw [h] at h2; cases h2⟩
  · rename_i h
    split
    · exact ⟨by simp, by simp, fun h2 => by simp at h2⟩
    · exact ⟨by simp, by simp, fun _ => ⟨by simpa using h, rfl⟩⟩
theorem BackF.yes {on : Nat} {ops : Nat → OpV} {st : List Int × Bool} {l : List OpV} {n i : Nat} (M : Int) (h : BackF on ops st l n) (hi : i < on) (hr : OpR (ops i)) (hb : (encO (ops i)).length ≤ 1048600) : BackF on ops (putF M st (encO (ops i))) (l ++ [ops i]) (n + 1) := by
  obtain ⟨f1, f2, f3⟩ := putF_facts M st (encO (ops i))
  refine ⟨fun o ho => ?_, fun o ho => ?_, fun he => ?_, ?_, ?_⟩
  · rcases List.mem_append.1 ho with ho | ho
    · exact h.src o ho
    · exact ⟨i, hi, by simpa using ho⟩
  · rcases List.mem_append.1 ho with ho | ho
    · exact h.rd o ho
    · rw [show o = ops i by simpa using ho]; exact hr
  · obtain ⟨g1, g2⟩ := f3 he
    rw [g2, h.fit g1]; simp
  · have := h.len; omega
  · have := h.cnt; simp; omega
theorem BackF.no {on : Nat} {ops : Nat → OpV} {st : List Int × Bool} {l : List OpV} {n i : Nat} (M : Int) (h : BackF on ops st l n) (hr : OpR (ops i)) (hb : (encO (ops i)).length ≤ 1048600) (h1 : ¬ st.1.length < (putF M st (encO (ops i))).1.length) (h2 : (ops i).kind = 2 → (ops i).bz.length ≠ 0) (h4 : (ops i).kind = 4 → 0 < (ops i).k) : BackF on ops (putF M st (encO (ops i))) l (n + 1) := by
  obtain ⟨f1, f2, f3⟩ := putF_facts M st (encO (ops i))
  have hne : (encO (ops i)).length ≠ 0 := by
    unfold encO
    rcases hr.kd with hk | hk | hk | hk
    · rw [if_pos hk]; simp
    · rw [if_neg (by omega), if_pos hk]; exact h2 hk
    · rw [if_neg (by omega), if_neg (by omega), if_pos hk]; have := (vz_len (ops i).n).1; omega
    · rw [if_neg (by omega), if_neg (by omega), if_neg (by omega), if_pos hk, fz_len]; have := h4 hk; unfold oct; omega
  refine ⟨h.src, h.rd, fun he => ?_, ?_, ?_⟩
  · obtain ⟨g1, g2⟩ := f3 he
    rw [g2] at h1
    simp at h1
    exact absurd (by rw [h1]; rfl) hne
  · have := h.len; omega
  · have := h.cnt; omega
theorem BackF.skip {on : Nat} {ops : Nat → OpV} {st : List Int × Bool} {l : List OpV} {n : Nat} (h : BackF on ops st l n) : BackF on ops st l (n + 1) :=
  ⟨h.src, h.rd, h.fit, Nat.le_trans h.len (Nat.mul_le_mul_right _ (Nat.le_succ n)), Nat.le_trans h.cnt (Nat.le_succ n)⟩
theorem vzN_u8 : ∀ (f : Nat) (n : Int), ∀ x ∈ vzN f n, 0 ≤ x ∧ x < 256
  | 0, n, x, h => by
    simp only [vzN, List.mem_singleton] at h
    omega
  | f + 1, n, x, h => by
    simp only [vzN] at h
    split at h
    · rw [or128 _ (by omega) (by omega)] at h
      rcases List.mem_cons.1 h with rfl | h
      · omega
      · exact vzN_u8 f _ x h
    · simp only [List.mem_singleton] at h
      omega
theorem encO_u8 {o : OpV} (h : ∀ x ∈ o.bz, 0 ≤ x ∧ x < 256) : ∀ x ∈ encO o, 0 ≤ x ∧ x < 256 := by
  intro x hx
  unfold encO at hx
  split at hx
  · simp only [List.mem_singleton] at hx; omega
  · split at hx
    · exact h x hx
    · split at hx
      · exact vzN_u8 9 _ x hx
      · split at hx
        · exact fz_u8 _ _ x hx
        · simp at hx
/-- A cursor over what was put in (or some of it), read again call by call. -/
theorem again_put {W wx : World} {oa : Option Addr} {on oc : Nat} {ops : Nat → OpV} (HO : OpsAt W oa on oc ops) {c : Nat} {a : Option Addr} {cap : Nat} {z : List Int} (hC : CurC wx c a cap z 0 0) (hzn : z.length ≤ 140737488351232) (hz : ∀ x ∈ z, 0 ≤ x ∧ x < 256)
    (hab : ∀ x, a = some x → x.block < wx.heap.size) {pv : Value} {l : List OpV} (hP : PutOwn W.heap.size wx pv l) (hcW : W.heap.size ≤ c) (hpc : pv.ownBlock ≠ some c) (bel : Below W.heap.size W wx) (src : ∀ o ∈ l, ∃ i, i < on ∧ o = ops i) :
    Calls Try.prog 37 #[.pointer (some ⟨c, 0, none⟩), pv] wx fun e' w' => e' = .returned (.bool (l.foldl (agStep z) (0, 0, true)).2.2) ∧ CurC w' c a cap z (l.foldl (agStep z) (0, 0, true)).1 (l.foldl (agStep z) (0, 0, true)).2.1 ∧ Kept (fun k => k = c) wx w' := by
  obtain ⟨pa, pc, rfl, f1, f2, f3, f4⟩ := hP.form
  have hr : ∀ o ∈ l, ∃ b i, OpOk W b i o := fun o ho => by
    obtain ⟨i, hi, rfl⟩ := src o ho
    obtain ⟨b, p, _, hop⟩ := HO.at_ i hi
    exact ⟨b, _, hop⟩
  have hat := PutOwn.at_ hP (fun o ho => by
    obtain ⟨b, i, hop⟩ := hr o ho
    exact ⟨hop.kr, hop.nr, hop.kkr, hop.sl.keep bel, hop.nil, hop.u8⟩)
  have := again_calls wx c a cap z 0 0 hC pa l.length pc _ hat hzn hz hab (fun x hx e => hpc (by rw [hx]; simp [Value.ownBlock, e])) (fun i hi x hx hb e => by
    have hm : l.getD i default ∈ l := by
      rw [show l.getD i default = l[i] by simp [hi]]
      exact List.getElem_mem hi
    obtain ⟨b, q, hop⟩ := hr _ hm
    obtain ⟨b2, o2, e2, hcell⟩ := hop.sl.cell 0 hb
    have hlt := block_lt_of_cell hcell
    rw [hx] at e2
    obtain rfl := Option.some.inj e2
    have e' : b2 = c := e
    have h' : b2 < W.heap.size := hlt
    omega)
  rw [agN_foldl z l (0, 0, true) l.length (Nat.le_refl _), List.take_of_length_le (Nat.le_refl _)] at this
  exact this
set_option maxRecDepth 100000 in
set_option maxHeartbeats 4000000 in
theorem back_calls (W : World) (oa : Option Addr) (on oc : Nat) (ops : Nat → OpV) (h : OpsAt W oa on oc ops) (hn : on ≤ 1048576) (hbl : ∀ i, i < on → (ops i).bl ≤ 1048576) (most : Int) (m0 : -9223372036854775808 ≤ most) (m1 : most ≤ 9223372036854775807) :
    Calls Try.prog 7 #[.slice oa on oc, .int .i64 most] W fun e w' => e = .returned (.bool true) ∧ Below W.heap.size W w' := by
  have HO := Lib.hid h
  have HBL := Lib.hid hbl
  have mo := h.max
  have lo := h.le
  clear h hbl
  go_enter Try.func7, Try.ntmps7
  go_wp2_with (first
    | (go_at_call 30; refine (awake_calls _).mono ?_; rintro e w1 ⟨rfl, k1⟩)
    | (go_at_call 19; refine (new_eq _ most m0 m1).mono ?_; rintro e w3 ⟨rfl, rfl⟩))
  have i0 : BackM W (w1.alloc (newB most)) w1.heap.size (max most 0) ([], false) (.slice none 0 0) (.slice none 0 0) [] := by
    have hs := k1.size
    refine ⟨⟨?_, Ow.nil _ _ _ _, by simp [Value.ownBlock], hs⟩, World.ownsRow_nil _ _ _ _, fun k hk => by simp [Value.ownBlock], (k1.alloc (newB most)).below (Nat.le_refl _) (fun _ h => h.elim)⟩
    show (w1.heap.push _)[w1.heap.size]? = _
    rw [Array.getElem?_push, if_pos rfl]
    rfl
  have M0 : 0 ≤ max most 0 ∧ max most 0 ≤ 9223372036854775807 := by omega
  generalize w1.alloc (newB most) = w0 at *
  generalize w1.heap.size = p at *
  generalize max most 0 = M at *
  clear k1
  go_loopw [6, 7] (fun pv iv wr => ∃ (j : Nat) (st : List Int × Bool) (v : Value) (l : List OpV), iv = .int .i64 j ∧ j ≤ on ∧ BackM W wr p M st v pv l ∧ BackF on ops st l j) (fun _ iv _ => on - (intOf iv).toNat)
  case atStart => exact ⟨0, ([], false), _, [], rfl, by omega, i0, ⟨by simp, by simp, fun _ => rfl, by simp, by simp⟩⟩
  case round =>
    obtain ⟨j, st, v, l, rfl, hj, hM, hF⟩ := hrel
    clear i0
    have FF := Lib.hid hF
    have flen := hF.len
    have fcnt := hF.cnt
    clear hF
    by_cases hm : j < on
    · obtain ⟨b, o, rfl, hop⟩ := HO.out.at_ j hm
      have hlj := HBL.out j hm
      have hbz := hop.sl.len
      have hop' := hop.below hM.bel
      have c0 := hop'.c0
      have c1 := hop'.c1
      have c2 := hop'.c2
      have c3 := hop'.c3
      have c4 := hop'.c4
      have hbx : BoxO (wr.alloc (.cells #[.int .i64 (ops j).kind, .int .u64 (ops j).n, .int .i64 (ops j).k, .slice (ops j).ba (ops j).bl (ops j).bc, .bool (ops j).two] 53)) wr.heap.size (ops j) := box_new wr (ops j)
      have ka : Kept (fun _ => False) wr (wr.alloc (.cells #[.int .i64 (ops j).kind, .int .u64 (ops j).n, .int .i64 (ops j).k, .slice (ops j).ba (ops j).bl (ops j).bc, .bool (ops j).two] 53)) := (Kept.refl _ wr).alloc _
      have hMb := hM.keep ka
      have slb := hop'.sl.kept ka (fun _ _ => id)
      have gne : ¬ Fp p v wr.heap.size := fun hf => by have := (hM.B.lt _ hf).2; omega
      have kkr := hop.kkr
      have nr := hop.nr
      have NIL := Lib.hid hop.nil
      have HBZ := Lib.hid hbz
      by_cases hk : (ops j).kind = 1 ∨ (ops j).kind = 2 ∨ (ops j).kind = 3 ∨ (ops j).kind = 4
      · have hr : OpR (ops j) := ⟨nr.1, nr.2, hk⟩
        have henc : (encO (ops j)).length ≤ 1048600 := by have := encO_len hbz; omega
        obtain ⟨st1, hst1⟩ : ∃ st1, st1 = putF M st (encO (ops j)) := ⟨_, rfl⟩
        have HST := Lib.hid hst1
        have HR := Lib.hid hr
        have HENC := Lib.hid henc
        have HK := Lib.hid hk
        clear hst1 hr henc hk hop' hbz hop
        go_upto_block 2 with (go_at_call 31; refine (len_calls _ W.heap.size p M st v hMb.B).mono ?_; rintro e9 w9 ⟨rfl, rfl⟩)
        clear c0 c1 c2 c3 c4 ka hM
        generalize wr.alloc (.cells #[.int .i64 (ops j).kind, .int .u64 (ops j).n, .int .i64 (ops j).k, .slice (ops j).ba (ops j).bl (ops j).bc, .bool (ops j).two] 53) = wb at *
        generalize wr.heap.size = g at *
        go_cut [7] (fun s7 wx => s7 = .int .i64 j ∧ ∃ v', BackM W wx p M st1 v' u6 l ∧ BoxO wx g (ops j))
        case first =>
          have d0 := hbx.c0
          have d1 := hbx.c1
          have d2 := hbx.c2
          have d3 := hbx.c3
          by_cases h1 : (ops j).kind = 1
          · have he : putF M st [(ops j).n % 256] = st1 := by rw [HST.out]; unfold encO; rw [if_pos h1]
            have b1 : ((ops j).kind == 1) = true := by simp [h1]
            have HE := Lib.hid he
            clear h1 he
            go_wp2_with (go_at_call 32; refine (byte_calls _ W.heap.size p M st v hMb.B _ M0.1 M0.2 (by omega)).mono ?_; rw [HE.out]; rintro e9 w3 hp; obtain ⟨v', rfl, hM3, hK3⟩ := hMb.put hp; clear hp)
            go_meet
            exact ⟨rfl, v', hM3, hbx.kept hK3 gne⟩
          by_cases h2 : (ops j).kind = 2
          · have he : putF M st (ops j).bz = st1 := by rw [HST.out]; unfold encO; rw [if_neg h1, if_pos h2]
            have b2 : ((ops j).kind == 2) = true := by simp [h2]
            have n1 : ((ops j).kind == 1) = false := by simp [h1]
            have HE := Lib.hid he
            clear h1 h2 he
            go_wp2_with (go_at_call 33; refine (raw_calls _ W.heap.size p M st v hMb.B _ _ _ (ops j).bz slb NIL.out M0.1 M0.2 (by omega)).mono ?_; rw [HE.out]; rintro e9 w3 hp; obtain ⟨v', rfl, hM3, hK3⟩ := hMb.put hp; clear hp)
            go_meet
            exact ⟨rfl, v', hM3, hbx.kept hK3 gne⟩
          by_cases h3 : (ops j).kind = 3
          · have he : putF M st (vz (ops j).n) = st1 := by rw [HST.out]; unfold encO; rw [if_neg h1, if_neg h2, if_pos h3]
            have b3 : ((ops j).kind == 3) = true := by simp [h3]
            have n1 : ((ops j).kind == 1) = false := by simp [h1]
            have n2 : ((ops j).kind == 2) = false := by simp [h2]
            have HE := Lib.hid he
            clear h1 h2 h3 he
            go_wp2_with (go_at_call 34; refine (varint_calls _ W.heap.size p M st v hMb.B (ops j).n nr.1 nr.2 M0.1 M0.2 (by omega)).mono ?_; rw [HE.out]; rintro e9 w3 hp; obtain ⟨v', rfl, hM3, hK3⟩ := hMb.put hp; clear hp)
            go_meet
            exact ⟨rfl, v', hM3, hbx.kept hK3 gne⟩
          by_cases h4 : (ops j).kind = 4
          · have he : putF M st (fz (ops j).n (oct (ops j).k)) = st1 := by rw [HST.out]; unfold encO; rw [if_neg h1, if_neg h2, if_neg h3, if_pos h4]
            have b4 : ((ops j).kind == 4) = true := by simp [h4]
            have n1 : ((ops j).kind == 1) = false := by simp [h1]
            have n2 : ((ops j).kind == 2) = false := by simp [h2]
            have n3 : ((ops j).kind == 3) = false := by simp [h3]
            have HE := Lib.hid he
            clear h1 h2 h3 h4 he
            go_wp2_with (go_at_call 35; refine (fixed_calls _ W.heap.size p M st v hMb.B (ops j).n (ops j).k nr.1 nr.2 kkr.1 kkr.2 M0.1 M0.2 (by omega)).mono ?_; rw [HE.out]; rintro e9 w3 hp; obtain ⟨v', rfl, hM3, hK3⟩ := hMb.put hp; clear hp)
            go_meet
            exact ⟨rfl, v', hM3, hbx.kept hK3 gne⟩
          exact absurd HK.out (by omega)
        case rest =>
          rename World => wx
          obtain ⟨rfl, v', hM1, hbx1⟩ := hcut
          have d0 := hbx1.c0
          have d1 := hbx1.c1
          have d2 := hbx1.c2
          have d3 := hbx1.c3
          have d4 : wx.cell? ⟨g, 4, none⟩ = some (.bool (ops j).two) := by rw [cell_of_row wx g 4 _ _ _ hbx1]; rfl
          have kx : Kept (fun _ => False) wx (wx.alloc (.cells #[.int .i64 (ops j).kind, .int .u64 (ops j).n, .int .i64 (ops j).k, .slice (ops j).ba (ops j).bl (ops j).bc, .bool (ops j).two] 53)) := (Kept.refl _ wx).alloc _
          have hMx := hM1.keep kx
          have bxx : BoxO (wx.alloc (.cells #[.int .i64 (ops j).kind, .int .u64 (ops j).n, .int .i64 (ops j).k, .slice (ops j).ba (ops j).bl (ops j).bc, .bool (ops j).two] 53)) wx.heap.size (ops j) := box_new wx (ops j)
          have YES : Hid (BackF on ops st1 (l ++ [ops j]) (j + 1)) := Lib.hid (by rw [HST.out]; exact FF.out.yes M hm HR.out HENC.out)
          have hbl0 : (ops j).bz.length = (ops j).bl := HBZ.out
          clear hbx slb kx
          by_cases hT : st.1.length < st1.1.length
          · have t1 : decide (st.1.length < st1.1.length) = true := by simp [hT]
            have t2 : decide ((st.1.length : Int) < (st1.1.length : Int)) = true := by simp; omega
            clear hbl0
            go_wp2_with (first
              | (go_at_call 31; refine (len_calls _ W.heap.size p M st1 v' hM1.B).mono ?_; rintro e9 w9 ⟨rfl, rfl⟩)
              | (at_builtin
                 refine wpList_put rfl (.tmp 83) (.tmp 85) rfl W.heap.size _ l rfl hMx.P wx.heap.size (ops j) rfl bxx (by omega) hMx.bel.size ?_
                 intro pv' w5 hP5 hg5 hS5
                 have hM5 := hMx.app hP5 hg5 hS5
                 clear hg5 hS5 hP5))
            go_roundw
            case rel => exact ⟨j + 1, st1, v', l ++ [ops j], by simp, by omega, hM5, YES.out⟩
            case measure => simp [intOf]; omega
          · have t1 : decide (st.1.length < st1.1.length) = false := by simp; omega
            have t2 : decide ((st.1.length : Int) < (st1.1.length : Int)) = false := by simp; omega
            have HT : Hid (¬ st.1.length < st1.1.length) := Lib.hid hT
            clear hT
            by_cases h2 : (ops j).kind = 2
            · have b2 : ((ops j).kind == 2) = true := by simp [h2]
              have b4 : ((ops j).kind == 4) = false := by simp; omega
              by_cases hz : (ops j).bl = 0
              · have bz0 : (((ops j).bl : Int) == 0) = true := by simp [hz]
                clear h2 hz hbl0
                go_wp2_with (first
                  | (go_at_call 31; refine (len_calls _ W.heap.size p M st1 v' hM1.B).mono ?_; rintro e9 w9 ⟨rfl, rfl⟩)
                  | (at_builtin
                     refine wpList_put rfl (.tmp 83) (.tmp 85) rfl W.heap.size _ l rfl hMx.P wx.heap.size (ops j) rfl bxx (by omega) hMx.bel.size ?_
                     intro pv' w5 hP5 hg5 hS5
                     have hM5 := hMx.app hP5 hg5 hS5
                     clear hg5 hS5 hP5))
                go_roundw
                case rel => exact ⟨j + 1, st1, v', l ++ [ops j], by simp, by omega, hM5, YES.out⟩
                case measure => simp [intOf]; omega
              · have bz0 : (((ops j).bl : Int) == 0) = false := by simp [hz]
                have NO : Hid (BackF on ops st1 l (j + 1)) := Lib.hid (by rw [HST.out]; exact FF.out.no M HR.out HENC.out (by rw [← HST.out]; exact HT.out) (fun _ => by rw [hbl0]; exact hz) (fun h => by omega))
                clear h2 hz hbl0
                go_wp2_with (go_at_call 31; refine (len_calls _ W.heap.size p M st1 v' hM1.B).mono ?_; rintro e9 w9 ⟨rfl, rfl⟩)
                go_roundw
                case rel => exact ⟨j + 1, st1, v', l, by simp, by omega, hM1, NO.out⟩
                case measure => simp [intOf]; omega
            · have b2 : ((ops j).kind == 2) = false := by simp [h2]
              by_cases h4 : (ops j).kind = 4
              · have b4 : ((ops j).kind == 4) = true := by simp [h4]
                by_cases hz : (ops j).k ≤ 0
                · have bz0 : decide ((ops j).k ≤ 0) = true := by simp [hz]
                  clear h2 h4 hbl0
                  go_wp2_with (first
                    | (go_at_call 31; refine (len_calls _ W.heap.size p M st1 v' hM1.B).mono ?_; rintro e9 w9 ⟨rfl, rfl⟩)
                    | (at_builtin
                       refine wpList_put rfl (.tmp 83) (.tmp 85) rfl W.heap.size _ l rfl hMx.P wx.heap.size (ops j) rfl bxx (by omega) hMx.bel.size ?_
                       intro pv' w5 hP5 hg5 hS5
                       have hM5 := hMx.app hP5 hg5 hS5
                       clear hg5 hS5 hP5))
                  go_roundw
                  case rel => exact ⟨j + 1, st1, v', l ++ [ops j], by simp, by omega, hM5, YES.out⟩
                  case measure => simp [intOf]; omega
                · have bz0 : decide ((ops j).k ≤ 0) = false := by simp; omega
                  have NO : Hid (BackF on ops st1 l (j + 1)) := Lib.hid (by rw [HST.out]; exact FF.out.no M HR.out HENC.out (by rw [← HST.out]; exact HT.out) (fun h => absurd h h2) (fun _ => by omega))
                  clear h2 h4 hbl0
                  go_wp2_with (go_at_call 31; refine (len_calls _ W.heap.size p M st1 v' hM1.B).mono ?_; rintro e9 w9 ⟨rfl, rfl⟩)
                  go_roundw
                  case rel => exact ⟨j + 1, st1, v', l, by simp, by omega, hM1, NO.out⟩
                  case measure => simp [intOf]; omega
              · have b4 : ((ops j).kind == 4) = false := by simp [h4]
                have NO : Hid (BackF on ops st1 l (j + 1)) := Lib.hid (by rw [HST.out]; exact FF.out.no M HR.out HENC.out (by rw [← HST.out]; exact HT.out) (fun h => absurd h h2) (fun h => absurd h h4))
                clear h2 h4 hbl0
                go_wp2_with (go_at_call 31; refine (len_calls _ W.heap.size p M st1 v' hM1.B).mono ?_; rintro e9 w9 ⟨rfl, rfl⟩)
                go_roundw
                case rel => exact ⟨j + 1, st1, v', l, by simp, by omega, hM1, NO.out⟩
                case measure => simp [intOf]; omega
      · have n1 : ((ops j).kind == 1) = false := by simp; omega
        have n2 : ((ops j).kind == 2) = false := by simp; omega
        have n3 : ((ops j).kind == 3) = false := by simp; omega
        have n4 : ((ops j).kind == 4) = false := by simp; omega
        clear hop' hbz hop hk
        go_wp2_with (go_at_call 31; refine (len_calls _ W.heap.size p M st v hMb.B).mono ?_; rintro e9 w9 ⟨rfl, rfl⟩)
        go_roundw
        case rel => exact ⟨j + 1, st, v, l, by simp, by omega, hMb, FF.out.skip⟩
        case measure => simp [intOf]; omega
    · obtain rfl : j = on := by omega
      cases hf : st.2 with
      | true =>
        have HF := Lib.hid hf
        clear hf
        go_wp2_with (go_at_call 36; refine (bytes_calls _ W.heap.size p M st v hM.B (by omega)).mono ?_; rintro e9 w3 ⟨v3, rfl, o3, k3⟩; have hM3 := hM.keep k3; rw [if_pos HF.out] at o3 ⊢; obtain ⟨xa, rfl, s3⟩ := o3.sl; clear k3 o3)
        go_ret
        exact ⟨rfl, hM3.bel⟩
      | false =>
        have hfit := FF.out.fit hf
        have hzb : ∀ x ∈ st.1, 0 ≤ x ∧ x < 256 := by
          rw [hfit]
          intro x hx
          obtain ⟨o, ho, hx⟩ := List.mem_flatMap.1 hx
          obtain ⟨i, hi, rfl⟩ := FF.out.src o ho
          obtain ⟨b, p, _, hop⟩ := HO.out.at_ i hi
          exact encO_u8 hop.u8 x hx
        have HZB := Lib.hid hzb
        have hA := foldA (z := st.1) (ok := true) (r := []) l 0 FF.out.rd (by rw [hfit]; simp) (by omega)
        rw [← hfit, Nat.zero_add] at hA
        have HA := Lib.hid hA
        have hB := fun (hp : st.1 ≠ []) => foldB (z := st.1.take (st.1.length - 1)) (ok := true) l 0 (st.1.length - 1) FF.out.rd (by rw [hfit]; simp) (by rw [← hfit]; have := List.length_pos_iff.2 hp; omega) (by omega)
        have HB := Lib.hid hB
        have HF := Lib.hid hf
        clear hf hfit hzb hA hB
        go_wp2_with (first
          | (go_at_call 36; refine (bytes_calls _ W.heap.size p M st v hM.B (by omega)).mono ?_; rintro e9 w3 ⟨v3, rfl, o3, k3⟩; have hM3 := hM.keep k3; rw [if_neg (by rw [HF.out]; simp)] at o3 ⊢; obtain ⟨xa, rfl, s3⟩ := o3.sl; have lt3 := o3.lt; clear k3 o3)
          | (go_at_call 23; refine (read_eq _ _ _ _).mono ?_; rintro e9 w4 ⟨rfl, rfl⟩))
        have zl : st.1.length ≤ 140737488351232 := by omega
        have k4 : Kept (fun _ => False) w3 (w3.alloc (newC xa st.1.length st.1.length)) := (Kept.refl _ _).alloc _
        have sz3 := hM3.bel.size
        have hM4 := hM3.keep k4
        have lt4 : ∀ x, xa = some x → x.block < w3.heap.size := fun x hx => (lt3 x.block (by rw [hx]; rfl)).2
        have nil3 : xa = none → st.1.length = 0 := fun e => by
          rcases Nat.eq_zero_or_pos st.1.length with h | h
          · exact h
          · obtain ⟨b9, o9, e9, _⟩ := s3.cell 0 h
            rw [e] at e9; cases e9
        have hC4 : CurC (w3.alloc (newC xa st.1.length st.1.length)) w3.heap.size xa st.1.length st.1 0 0 := ⟨by show (w3.heap.push _)[w3.heap.size]? = _; rw [Array.getElem?_push, if_pos rfl]; rfl, s3.kept k4 (fun _ _ => id), nil3, fun x hx e => by have := lt4 x hx; omega, Nat.zero_le _⟩
        have pv4 : u6.ownBlock ≠ some w3.heap.size := fun e => by have := (hM3.P.lt _ e).2; omega
        have R := again_put HO.out hC4 zl HZB.out (fun x hx => Nat.lt_of_lt_of_le (lt4 x hx) k4.size) hM4.P sz3 pv4 hM4.bel FF.out.src
        rw [HA.out] at R
        simp only at R
        have s4 := s3.kept k4 (fun _ _ => id)
        have z4 := k4.size
        have sz5 : w3.heap.size < (w3.alloc (newC xa st.1.length st.1.length)).heap.size := by simp
        generalize w3.alloc (newC xa st.1.length st.1.length) = w4 at *
        generalize w3.heap.size = c at *
        have hE : endE st.1.length st.1.length 0 = 0 := by unfold endE; rw [if_neg (by omega)]
        have HE := Lib.hid hE
        have N3 := Lib.hid nil3
        have L4 := Lib.hid lt4
        clear hE nil3 lt4 lt3 k4 s3 hM3
        by_cases hz0 : st.1.length = 0
        · have t0 : ((st.1.length : Int) == 0) = true := by simp [hz0]
          have HZ0 := Lib.hid hz0
          clear hz0
          go_wp2_with (first
            | (go_at_call 37; refine R.mono ?_; rintro e9 w5 ⟨rfl, hC5, k5⟩; clear R)
            | (go_at_call 28; refine (end_calls _ c xa _ st.1 _ 0 hC5).mono ?_; rw [HE.out]; rintro e9 w6 ⟨rfl, n6, rfl⟩)
            | (go_at_call 25; refine (left_calls _ c xa _ st.1 _ 0 (hC5.drewN n6)).mono ?_; rintro e9 w7 ⟨rfl, n7, rfl⟩))
          go_ret
          exact ⟨rfl, below_drewN (hM4.bel.trans (k5.below hM4.bel.size (fun k hk => by omega))) _⟩
        · have t0 : ((st.1.length : Int) == 0) = false := by simp [hz0]
          have j0 : (0 : Int) ≤ (st.1.length : Int) - 1 := by omega
          have j1 : (st.1.length : Int) - 1 ≤ (st.1.length : Int) := by omega
          have HZ0 := Lib.hid hz0
          clear hz0
          go_wp2_with (first
            | (go_at_call 37; refine R.mono ?_; rintro e9 w5 ⟨rfl, hC5, k5⟩; clear R)
            | (go_at_call 28; refine (end_calls _ c xa _ st.1 _ 0 hC5).mono ?_; rw [HE.out]; rintro e9 w6 ⟨rfl, n6, rfl⟩)
            | (go_at_call 25; refine (left_calls _ c xa _ st.1 _ 0 (hC5.drewN n6)).mono ?_; rintro e9 w7 ⟨rfl, n7, rfl⟩))
          have k8 : Kept (fun k => k = c) w4 (w5.drewN (n6 + n7)) := k5.drewN _
          have hP8 := hM4.P.kept k8 (fun g hg e => pv4 (e ▸ hg))
          have b8 := hM4.bel.trans (k8.below hM4.bel.size (fun k hk => by omega))
          have s8 := (s4.kept k8 (fun x hx e => by have := L4.out x hx; omega)).pre (st.1.length - 1) (by omega)
          have z8 := k8.size
          generalize w5.drewN (n6 + n7) = w8 at *
          clear hC5 k5 k8 hC4 s4
          have em : (st.1.take (st.1.length - 1)).length = st.1.length - 1 := by simp
          have k9 : Kept (fun _ => False) w8 (w8.alloc (newC xa (st.1.length - 1) st.1.length)) := (Kept.refl _ _).alloc _
          have hC9 : CurC (w8.alloc (newC xa (st.1.length - 1) st.1.length)) w8.heap.size xa st.1.length (st.1.take (st.1.length - 1)) 0 0 := by
            refine ⟨?_, ?_, N3.out, fun x hx e => by have := L4.out x hx; omega, Nat.zero_le _⟩
            · rw [em]
              show (w8.heap.push _)[w8.heap.size]? = _
              rw [Array.getElem?_push, if_pos rfl]; rfl
            · rw [em]; exact s8.kept k9 (fun _ _ => id)
          have hP9 := hP8.kept k9 (fun _ _ => id)
          have pv9 : u6.ownBlock ≠ some w8.heap.size := fun e => by have := (hP8.lt _ e).2; omega
          have R2 := again_put HO.out hC9 (by rw [em]; omega) (fun x hx => HZB.out x (List.mem_of_mem_take hx)) (fun x hx => by have := L4.out x hx; have := k9.size; omega) hP9 b8.size pv9 (b8.trans (k9.below b8.size (fun _ h => h.elim))) FF.out.src
          rw [HB.out (fun e => HZ0.out (by rw [e]; rfl))] at R2
          simp only at R2
          have b9 := b8.trans (k9.below b8.size (fun _ h => h.elim))
          have hc9 := b8.size
          go_wp2_with (first
            | (go_at_call 23; refine (read_eq _ _ _ _).mono ?_; rintro e9 w9 ⟨rfl, rfl⟩)
            | (go_at_call 37; refine R2.mono ?_; rintro e9 w10 ⟨rfl, hC10, k10⟩; clear R2)
            | (go_at_call 26; refine (err_calls _ w8.heap.size xa _ _ _ 10 hC10).mono ?_; rintro e9 w11 ⟨rfl, rfl⟩))
          go_ret
          exact ⟨rfl, b9.trans (k10.below b9.size (fun k hk => by omega))⟩
end Go.Proofs.Ytgkbkkhlnidigaa
