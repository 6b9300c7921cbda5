/- walked: what Each goes through, so many at most; twice. -/
import Derived.Test.YtjgcmnppiaikcaaDlE
import Derived.Outline
set_option linter.unusedVariables false
set_option linter.unusedSimpArgs false
namespace Go.Tk
open Go Go.RowKit
theorem KpO.refl (Q : Obj → Prop) (S : Nat → Prop) (B : Nat) (X : World) : KpO Q S B X X := ⟨Nat.le_refl _, fun _ _ h _ => h⟩
theorem cell_two_newD (W : World) (u v : Value) (e : TypeId) : ∀ j x, [u, v][j]? = some x → (W.alloc (.cells #[u, v] e)).cell? ((⟨W.heap.size, 0, none⟩ : Addr).add j) = some x := by
  intro j x hx
  match j, hx with
  | 0, hx => obtain rfl : u = x := by simpa using hx
             rw [Addr.add_lit, World.cell?_alloc_at _ _ _ _ rfl]; rfl
  | 1, hx => obtain rfl : v = x := by simpa using hx
             rw [Addr.add_lit, World.cell?_alloc_at _ _ _ _ rfl]; rfl
  | j + 2, hx => simp at hx
theorem Carry.abd {W X Y : World} {B : Nat} {row : Option Nat} (h : Carry W B X) (hg : X.grownBy Y row) (hr : ∀ r, row = some r → W.heap.size ≤ r) : Carry W B Y :=
  ⟨Nat.le_trans h.1 hg.size, fun j hj hB => (hg.block j (by have := h.1; omega) (fun e => by have := hr j e.symm; omega)).trans (h.2 j hj hB)⟩
/-- Between two rounds: the box holds what has come. -/
def WInv (T e : TypeId) (n₀ B M : Nat) (L : List (Nat × List UInt8)) (i : Nat) (W : World) : Prop := ∃ v, Boxed W B T v ∧ W.ownsRow n₀ e 2 v i (sawCs (L.take i)) ∧ i ≤ M
/-- The loop has been left: all but the last have been taken. -/
def WOut (T e : TypeId) (n₀ B M : Nat) (L : List (Nat × List UInt8)) (i : Nat) (W : World) : Prop := ∃ v, Boxed W B T v ∧ W.ownsRow n₀ e 2 v M (sawCs (L.take M)) ∧ i = M + 1
/-- Behind the loop, whichever way it ended. -/
def WEnd (T e : TypeId) (n₀ B M : Nat) (L : List (Nat × List UInt8)) (W : World) : Prop := ∃ v, Boxed W B T v ∧ W.ownsRow n₀ e 2 v (L.take M).length (sawCs (L.take M))
theorem WInv.fin {T e : TypeId} {n₀ B M : Nat} {L : List (Nat × List UInt8)} {W : World} (h : WInv T e n₀ B M L L.length W) : WEnd T e n₀ B M L W := by
  obtain ⟨v, h1, h2, h3⟩ := h
  refine ⟨v, h1, ?_⟩
  rw [List.take_of_length_le h3]
  rw [List.take_length] at h2
  exact h2
theorem WOut.fin {T e : TypeId} {n₀ B M i : Nat} {L : List (Nat × List UInt8)} {W : World} (h : WOut T e n₀ B M L i W) (hi : i ≤ L.length) : WEnd T e n₀ B M L W := by
  obtain ⟨v, h1, h2, h3⟩ := h
  refine ⟨v, h1, ?_⟩
  rw [List.length_take, Nat.min_eq_left (by omega)]
  exact h2
end Go.Tk
namespace Go.Proofs.Ytjgcmnppiaikcaa
open Go.RowKit Go.Shelf Go.Tk
attribute [local go_sem] Oper.semAt_some
theorem Try.infoSaw : (Try.prog.info? 68).map (fun i => (i.zero, i.size, i.bytes)) = some (some (.agg #[.int .i64 0, .string ⟨#[]⟩]), 2, 24) := by kernel_rfl
theorem WInv.ab {n₀ B M i : Nat} {L : List (Nat × List UInt8)} {X Y : World} {row : Option Nat} (h : WInv 64 68 n₀ B M L i X) (hg : X.grownBy Y row) (hr : ∀ r, row = some r → ∃ o : Obj, X.heap[r]? = some o ∧ ((QoE o ∨ o.isCells = false) ∨ o.isCells = false)) : WInv 64 68 n₀ B M L i Y := by
  obtain ⟨v, h1, h2, h3⟩ := h
  have hr2 : ∀ r, row = some r → ∃ o : Obj, X.heap[r]? = some o ∧ (QoE o ∨ o.isCells = false) := fun r e => (hr r e).elim fun o ho => ⟨o, ho.1, ho.2.elim id .inr⟩
  exact ⟨v, box_ab h1 qoe_box hg hr2, row_ab h2 qoe_row hg hr2, h3⟩
theorem WOut.ab {n₀ B M i : Nat} {L : List (Nat × List UInt8)} {X Y : World} {row : Option Nat} (h : WOut 64 68 n₀ B M L i X) (hg : X.grownBy Y row) (hr : ∀ r, row = some r → ∃ o : Obj, X.heap[r]? = some o ∧ ((QoE o ∨ o.isCells = false) ∨ o.isCells = false)) : WOut 64 68 n₀ B M L i Y := by
  obtain ⟨v, h1, h2, h3⟩ := h
  have hr2 : ∀ r, row = some r → ∃ o : Obj, X.heap[r]? = some o ∧ (QoE o ∨ o.isCells = false) := fun r e => (hr r e).elim fun o ho => ⟨o, ho.1, ho.2.elim id .inr⟩
  exact ⟨v, box_ab h1 qoe_box hg hr2, row_ab h2 qoe_row hg hr2, h3⟩
theorem eachG_len (pz : List Int) (wd : Nat) (eb : List UInt8) (n fr : Nat) : ∀ f k, (eachG pz wd eb n fr f k).length ≤ 16 * f
  | 0, _ => by simp [eachG]
  | f + 1, k => by
    have h1 : (blkN pz wd eb n k).length ≤ 16 := bkF_len eb n 16 _ _ _
    have h2 := List.length_filter_le (fun x : Nat × List UInt8 => decide (fr ≤ x.1)) (blkN pz wd eb n k)
    have h3 := eachG_len pz wd eb n fr f (k + 1)
    simp only [eachG]
    split
    · simp
    · rw [List.length_append]
      split
      · simp only [List.length_nil]; omega
      · omega
set_option maxRecDepth 100000 in
set_option maxHeartbeats 4000000 in
theorem walked_calls (w : World) (gd N wd : Nat) (pa : Option Addr) (pc : Nat) (pz : List Int) (ea : Option Addr) (ec : Nat) (eb : List UInt8) (hD : DictM w gd N wd pa pc pz ea ec (nums eb)) (fr : Int) (hfr : -9223372036854775808 ≤ fr ∧ fr ≤ 9223372036854775807) (M : Nat) (hM : M ≤ 9223372036854775807) (L : List (Nat × List UInt8)) (hL : L = eachF pz wd eb N fr) :
    Calls Try.prog 28 #[.pointer (some ⟨gd, 0, none⟩), .int .i64 fr, .int .i64 (M : Nat)] w fun e w' => ∃ v, e = .returned (.tuple #[v, .bool true]) ∧ w'.ownsRow w.heap.size 68 2 v (L.take M).length (sawCs (L.take M)) ∧ Below w.heap.size w w' := by
  obtain ⟨i0, hi, hz0, hz1, hz2⟩ := info_parts Try.infoSaw
  have HI := Lib.hid hi
  have HZ0 := Lib.hid hz0
  have HZ1 := Lib.hid hz1
  have HZ2 := Lib.hid hz2
  clear hi hz0 hz1 hz2
  have hLl : L.length ≤ 4194320 := by
    rw [hL]
    have h1 := eachG_len pz wd eb N fr.toNat ((N + 15) / 16) (fr.toNat / 16)
    have h2 := hD.nN
    unfold eachF; omega
  have hst : ∀ (V : World), V.heap[w.heap.size + 4]? = some (.cells #[.int .i64 fr] 3 (0, 0)) → V.heap[w.heap.size + 3]? = some (.cells #[.pointer (some ⟨gd, 0, none⟩)] 38 (0, 0)) → w.heap.size ≤ V.heap.size → (∀ j, j < w.heap.size → V.heap[j]? = w.heap[j]?) →
      SeqI Fence.wide 5 Try.prog 76 #[.pointer (some ⟨w.heap.size + 4, 0, none⟩), .pointer (some ⟨w.heap.size + 3, 0, none⟩)] (L.map encK) (fun o => QoE o ∨ o.isCells = false) (KpO QoE (fun j => j < w.heap.size ∨ j = w.heap.size + 4 ∨ j = w.heap.size + 3)) V :=
    fun V h4 h3 h1 h2 => eachI_in 5 w gd N wd pa pc pz ea ec eb hD (w.heap.size + 4) (w.heap.size + 3) fr hfr L hL V h4 h3 h1 h2
  have HST := Lib.hid hst
  clear hst hL hD
  refine (callsIn_wide (n := 6)).1 ?_
  refine callsIn_of_wp_marks Try.func28 rfl trivial ?_ rfl
  simp only [Try.ntmps28, List.size_toArray, List.length_cons, List.length_nil, Nat.reduceAdd, Nat.reduceSub, Array.replicate_succ, Array.replicate_zero, List.push_toArray, List.append_toArray, List.nil_append, List.cons_append]
  gi_wp2_with (refine ⟨trivial, ?_⟩; gi_at_call 58; refine (each_in _ _ _ _).mono ?_; rintro e w' ⟨rfl, rfl⟩)
  have b0 := ((((Boxed.new w 3 (.int .i64 (M : Nat))).alloc (.cells #[.slice none 0 0] 64)).alloc (.cells #[.slice none 0 0] 64)).alloc (.cells #[.pointer (some ⟨gd, 0, none⟩)] 38)).alloc (.cells #[.int .i64 fr] 3)
  have b1 := (((Boxed.new (w.alloc (.cells #[.int .i64 (M : Nat)] 3)) 64 (.slice none 0 0)).alloc (.cells #[.slice none 0 0] 64)).alloc (.cells #[.pointer (some ⟨gd, 0, none⟩)] 38)).alloc (.cells #[.int .i64 fr] 3)
  have b2 := ((Boxed.new ((w.alloc (.cells #[.int .i64 (M : Nat)] 3)).alloc (.cells #[.slice none 0 0] 64)) 64 (.slice none 0 0)).alloc (.cells #[.pointer (some ⟨gd, 0, none⟩)] 38)).alloc (.cells #[.int .i64 fr] 3)
  have b3 := (Boxed.new (((w.alloc (.cells #[.int .i64 (M : Nat)] 3)).alloc (.cells #[.slice none 0 0] 64)).alloc (.cells #[.slice none 0 0] 64)) 38 (.pointer (some ⟨gd, 0, none⟩))).alloc (.cells #[.int .i64 fr] 3)
  have b4 := Boxed.new ((((w.alloc (.cells #[.int .i64 (M : Nat)] 3)).alloc (.cells #[.slice none 0 0] 64)).alloc (.cells #[.slice none 0 0] 64)).alloc (.cells #[.pointer (some ⟨gd, 0, none⟩)] 38)) 3 (.int .i64 fr)
  have hB : Below w.heap.size w (((((w.alloc (.cells #[.int .i64 (M : Nat)] 3)).alloc (.cells #[.slice none 0 0] 64)).alloc (.cells #[.slice none 0 0] 64)).alloc (.cells #[.pointer (some ⟨gd, 0, none⟩)] 38)).alloc (.cells #[.int .i64 fr] 3)) := (((((Below.refl _ w).alloc (Nat.le_refl _) _).alloc (by simp) _).alloc (by simp; omega) _).alloc (by simp; omega) _).alloc (by simp; omega) _
  have hsz : (((((w.alloc (.cells #[.int .i64 (M : Nat)] 3)).alloc (.cells #[.slice none 0 0] 64)).alloc (.cells #[.slice none 0 0] 64)).alloc (.cells #[.pointer (some ⟨gd, 0, none⟩)] 38)).alloc (.cells #[.int .i64 fr] 3)).heap.size = w.heap.size + 5 := by simp
  simp only [World.size_alloc, Nat.add_assoc, Nat.reduceAdd] at b0 b1 b2 b3 b4 ⊢
  generalize (((((w.alloc (.cells #[.int .i64 (M : Nat)] 3)).alloc (.cells #[.slice none 0 0] 64)).alloc (.cells #[.slice none 0 0] 64)).alloc (.cells #[.pointer (some ⟨gd, 0, none⟩)] 38)).alloc (.cells #[.int .i64 fr] 3)) = W0 at b0 b1 b2 b3 b4 hB hsz ⊢
  rename_i Q1 K1 a1
  have after : ∀ (D : Nat) (W : World), W0.heap.size ≤ D → WEnd 64 68 (w.heap.size + 5) (w.heap.size + 1) M L W → Carry W0 (w.heap.size + 1) W → Below w.heap.size w W →
      W.heap[D]? = some (.deferred (some [])) → K1 { tmps := #[.pointer (some ⟨gd, 0, none⟩), .int .i64 fr, .int .i64 (M : Nat), undef, undef, .pointer (some ⟨w.heap.size, 0, none⟩), .slice none 0 0, .bool false, .pointer (some ⟨w.heap.size + 1, 0, none⟩), .pointer (some ⟨w.heap.size + 2, 0, none⟩), .func (.func 76) #[] #[.pointer (some ⟨w.heap.size + 4, 0, none⟩), .pointer (some ⟨w.heap.size + 3, 0, none⟩)], undef, undef, undef, undef, .pointer (some ⟨gd, 0, none⟩), .int .i64 fr, .func (.func 76) #[] #[.pointer (some ⟨w.heap.size + 4, 0, none⟩), .pointer (some ⟨w.heap.size + 3, 0, none⟩)], .func (.func 76) #[] #[.pointer (some ⟨w.heap.size + 4, 0, none⟩), .pointer (some ⟨w.heap.size + 3, 0, none⟩)], undef, undef, undef, undef, undef, undef, undef, undef, undef, undef, undef, undef, undef, undef, undef, undef, undef, undef, undef, undef, undef, undef, undef, undef, undef, undef, undef, undef, undef], defers := [{ target := .collected D, args := #[] }] } W := by
    rintro D W hD ⟨v1, hv1, hrow1⟩ hCa0 hBW hK
    have c0 := hCa0.box b0 (by omega)
    have c2 := hCa0.box b2 (by omega)
    have c3 := hCa0.box b3 (by omega)
    have c4 := hCa0.box b4 (by omega)
    have hszW := hCa0.1
    have hltD := lt_of_block hK
    refine a1 _ _ ?_
    gi_wp2
    rename_i K2 a2
    have lt1 := lt_of_block hv1
    have after2 : ∀ (D2 : Nat) (X : World), W.heap.size ≤ D2 → WEnd 64 68 W.heap.size (w.heap.size + 2) M L X → Carry W (w.heap.size + 2) X → Below w.heap.size w X → X.heap[D2]? = some (.deferred (some [])) →
        K2 { tmps := #[.pointer (some ⟨gd, 0, none⟩), .int .i64 fr, .int .i64 (M : Nat), undef, undef, .pointer (some ⟨w.heap.size, 0, none⟩), .slice none 0 0, .bool false, .pointer (some ⟨w.heap.size + 1, 0, none⟩), .pointer (some ⟨w.heap.size + 2, 0, none⟩), .func (.func 76) #[] #[.pointer (some ⟨w.heap.size + 4, 0, none⟩), .pointer (some ⟨w.heap.size + 3, 0, none⟩)], undef, undef, undef, undef, .pointer (some ⟨gd, 0, none⟩), .int .i64 fr, .func (.func 76) #[] #[.pointer (some ⟨w.heap.size + 4, 0, none⟩), .pointer (some ⟨w.heap.size + 3, 0, none⟩)], .func (.func 76) #[] #[.pointer (some ⟨w.heap.size + 4, 0, none⟩), .pointer (some ⟨w.heap.size + 3, 0, none⟩)], undef, undef, undef, undef, undef, undef, undef, undef, undef, undef, undef, undef, .func (.func 76) #[] #[.pointer (some ⟨w.heap.size + 4, 0, none⟩), .pointer (some ⟨w.heap.size + 3, 0, none⟩)], undef, undef, undef, undef, undef, undef, undef, undef, undef, undef, undef, undef, undef, undef, undef, undef], defers := [{ target := .collected D2, args := #[] }, { target := .collected D, args := #[] }] } X := by
      rintro D2 X hD2 ⟨v2, hv2, hrow2⟩ hCa hBX hK2
      refine a2 _ _ ?_
      refine wpIn_wide.2 ?_
      dsimp only
      have hX0 := hBX.size
      have hne : D ≠ D2 := by omega
      have hDX : X.heap[D]? = some (.deferred (some [])) := (hCa.2 D (by omega) (by omega)).trans hK
      have x1 := hCa.box hv1 (by omega)
      have r1 := hCa.row hrow1 c2 (by decide)
      have hx1 := x1.cell
      have hx2 := hv2.cell
      have same := fun n => sameSaw_calls (X.drewN n) (w.heap.size + 5) W.heap.size v1 v2 (L.take M) (by simp; omega) r1 hrow2
      have R1 := Lib.hid r1
      have ND : Hid ([D2, D].Nodup) := Lib.hid (by simp; omega)
      have KD := Lib.hid hDX
      have KD2 := Lib.hid hK2
      have BX := Lib.hid hBX
      have LE1 := Lib.hid (show w.heap.size ≤ D by omega)
      have LE2 := Lib.hid (show w.heap.size ≤ D2 by omega)
      clear x1 r1 hX0 hne hDX hK hK2 hBX hCa hrow1 hrow2 hv1 hv2 c0 c2 c3 c4 hBW
      refine wp_seq ?_
      go_quiet ((go_at_call 52; exact (same _).mono fun _ _ ⟨he, m, hm⟩ => ⟨he, _, hm.trans (drewN_drewN X _ m)⟩))
      show Code.wp _ Code.ret Q1 _ _
      refine wp_ret ?_
      show LeavesInM Fence.wide 6 _ _ _ _ (marks [D2, D]) .returning _
      refine leavesMarks (v := .tuple #[v1, .bool true]) (fun Y => Y.ownsRow (w.heap.size + 5) 68 2 v1 (L.take M).length (sawCs (L.take M)) ∧ Below w.heap.size w Y) w.heap.size (fun Y E h hE hh => ⟨row_put h.1 hh rfl _, h.2.grown (grownBy_putObj' _ E (.deferred none)) h.2.size (fun k e => by cases e; exact hE)⟩) (fun Y _ => (results_tmp2 (t := 6) (u := 7) rfl _ _ _).trans rfl) (fun Y h => ⟨v1, rfl, ownsRow_mono h.1 (by omega), h.2⟩) [D2, D] (X.drewN nq) ND.out ?_ ⟨R1.out, below_drewN BX.out nq⟩
      intro E hE
      rcases List.mem_cons.1 hE with rfl | hE
      · exact ⟨LE2.out, KD2.out⟩
      · obtain rfl := List.mem_singleton.1 hE
        exact ⟨LE1.out, KD.out⟩
    refine wpIn_rangeFunc_ownI rfl (by omega) (gf := 76) (lb := #[.pointer (some ⟨w.heap.size + 4, 0, none⟩), .pointer (some ⟨w.heap.size + 3, 0, none⟩)]) rfl trivial (enters_of Try.func76 (by kernel_rfl) rfl)
      (HST.out W c4 c3 hBW.size (fun j hj => hBW.block j hj)) (fun h k => h.trans k) (fun X l o o' hl hl2 h1 h2 h3 => ⟨by simp, fun j o hj hs => (World.putObj_heap_other (fun e => by
          subst e
          rw [h1] at hj; cases hj
          rcases hs with (hs | hs | hs) | hs | hs
          · omega
          · omega
          · omega
          · obtain (⟨v, e⟩ | ⟨v, e⟩ | ⟨v, e⟩) := hs <;> (subst e; cases h2)
          · omega)).trans hj⟩) (Below.refl _ _) (fun x hx => by obtain ⟨y, _, rfl⟩ := List.mem_map.1 hx; rfl)
      (fun i X => WInv 64 68 (W.heap.size) (w.heap.size + 2) M L i X ∧ Carry W (w.heap.size + 2) X ∧ Below w.heap.size w X)
      (fun c i X => c = .exit 2 ∧ WOut 64 68 (W.heap.size) (w.heap.size + 2) M L i X ∧ Carry W (w.heap.size + 2) X ∧ Below w.heap.size w X)
      (fun i X Y row ⟨h1, h2, h3⟩ hg hr => ⟨WInv.ab h1 hg (fun r e => (hr r e).2), h2.abd hg (fun r e => (hr r e).1), h3.grown hg (by have := h3.size; omega) (fun r e => by have := (hr r e).1; have := hBW.size; omega)⟩)
      (fun c i X Y row ⟨h0, h1, h2, h3⟩ hg hr => ⟨h0, WOut.ab h1 hg (fun r e => (hr r e).2), h2.abd hg (fun r e => (hr r e).1), h3.grown hg (by have := h3.size; omega) (fun r e => by have := (hr r e).1; have := hBW.size; omega)⟩)
      ⟨⟨_, c2, World.ownsRow_nil _ _ _ _, Nat.zero_le _⟩, Carry.refl _ _, hBW⟩
      (axAt L ?fr2) (axAt_own _ _) ?assign2 ?body2 ?done2 ?stop2
    case assign2 =>
      intro l i hi X K hI hK
      have hiL : i < L.length := by simpa using hi
      obtain ⟨z, hz⟩ : ∃ z, z = L[i] := ⟨_, rfl⟩
      rw [List.getElem_map, ← hz]
      have HZ := Lib.hid hz
      clear hz
      unfold encK
      gi_wp2
      refine hK _ _ (KeepsFrom.refl _ _) (KpO.refl _ _ _ _) hI ?_
      refine axAt_intro hiL HZ.out ?_
      exact Eq.refl _
    case body2 =>
      rintro l i hi a' X hl ⟨r0, hr0⟩ ⟨⟨v, hv, hrow, hlM⟩, hCa, hBX⟩ ⟨hiL, rfl⟩
      have hll : (L.take i).length = i := by rw [List.length_take]; omega
      have htk : L.take (i + 1) = L.take i ++ [L[i]] := List.take_succ_eq_append_getElem hiL
      obtain ⟨z, hz⟩ : ∃ z, z = L[i] := ⟨_, rfl⟩
      dsimp only
      rw [← hz] at htk ⊢
      clear hz
      obtain ⟨kx, ux⟩ := z
      simp only
      obtain ⟨sx, hsx⟩ : ∃ sx : ByteArray, sx = ⟨ux.toArray⟩ := ⟨_, rfl⟩
      have hcs : sawCs (L.take (i + 1)) = sawCs (L.take i) ++ [.int .i64 (kx : Nat), .string sx] := by rw [htk, sawCs_snoc, hsx]; rfl
      rw [← hsx]
      have HCS := Lib.hid hcs
      obtain ⟨a, cp, rfl⟩ := ownsRow_slice hrow
      have d0 := hCa.box c0 (by omega)
      have d3 := hCa.box c3 (by omega)
      have d4 := hCa.box c4 (by omega)
      have hc := hv.cell
      have hc0 := d0.cell
      have hszX := hBX.size
      have hszC := hCa.1
      have hzV := hBW.size
      have D3 := Lib.hid d3
      have D4 := Lib.hid d4
      have HROW := Lib.hid hrow
      have HV := Lib.hid hv
      have HCA := Lib.hid hCa
      have HBX := Lib.hid hBX
      clear d0 d3 d4 hCa hBX hrow hv hr0 htk hcs hsx
      by_cases hML : i = M
      · have e1 : decide (M ≤ i) = true := decide_eq_true (by omega)
        have hfin : WOut 64 68 (W.heap.size) (w.heap.size + 2) M L (i + 1) X := ⟨_, HV.out, by rw [← hML]; exact HROW.out, by rw [hML]⟩
        have HF := Lib.hid hfin
        clear hfin hML
        gi_wp2
        exact ⟨KeepsFrom.refl _ _, rfl, HF.out, HCA.out, HBX.out⟩
      · have e1 : decide (M ≤ i) = false := decide_eq_false (by omega)
        have hLp : i < 4194400 := by omega
        gi_wp2_with (gi_at_builtin; refine wpListIn_append_own _ rfl _ _ 64 rfl (W.heap.size) 68 i0 (.agg #[.int .i64 0, .string ⟨#[]⟩]) 2 24 Try.underlying64 HI.out HZ0.out HZ1.out HZ2.out rfl (by decide) _ _ _ rfl (HROW.out.alloc _) ⟨X.heap.size, 0, none⟩ 1 1 [.int .i64 (kx : Nat), .string sx] rfl rfl (cell_two_newD _ _ _ _) (by simp [Value.oneCell']) (by unfold maxLen; omega) (by omega) (by simp; omega) ?_; intro v' w1 hown' hgrow _; obtain ⟨g', cap', rfl⟩ := ownsRow_succ hown'; obtain ⟨hv1, hv2, hr2, hk2, hb2, _, hb3⟩ := boxed_app (n₁ := w.heap.size) HV.out (by decide) HROW.out (by omega) (by omega) (by omega) hown' hgrow; have hc1 := hv1.cell; have hf1 := hv1.frozen; (have HV2 := Lib.hid hv2); (have HR2 := Lib.hid hr2); (have HK2 := Lib.hid hk2); (have HB2 := Lib.hid hb2); (have HB3 := Lib.hid hb3); (have HAK := Lib.hid (app_keeps (Q := QoE) (v' := .slice (some ⟨g', 0, none⟩) (i + 1) cap') HV.out qoe_box qoe_row HROW.out hgrow)); clear hv1 hv2 hr2 hk2 hb2 hb3 hown' hgrow)
        refine ⟨HK2.out.from _, ⟨HK2.out.size, fun j o ho hs => ?_⟩, ⟨_, HV2.out, ?_, by omega⟩, ⟨Nat.le_trans hszC HK2.out.size, fun j hj hjB => (HB3.out j (by omega) (by omega) hjB).trans (HCA.out.2 j hj hjB)⟩, HBX.out.trans HB2.out⟩
        · rcases hs with (hs | hs | hs) | hs | hs
          · exact (HB3.out j (by omega) (by omega) (by omega)).trans ho
          · subst hs
            rw [show X.heap[w.heap.size + 4]? = _ from D4.out] at ho
            cases ho
            exact HAK.out _ _ D4.out (.inl (.inl ⟨_, rfl⟩))
          · subst hs
            rw [show X.heap[w.heap.size + 3]? = _ from D3.out] at ho
            cases ho
            exact HAK.out _ _ D3.out (.inl (.inr (.inl ⟨_, rfl⟩)))
          · exact HAK.out _ _ ho (.inl hs)
          · exact HAK.out _ _ ho (.inr hs.2)
        · rw [HCS.out]
          exact HR2.out
    case done2 =>
      rintro D2 X hD2 ⟨hI, hCa, hBX⟩ hK
      rw [List.length_map] at hI
      exact after2 D2 X hD2 hI.fin hCa hBX hK
    case stop2 =>
      rintro D2 c i X hD2 hi ⟨rfl, hO, hCa, hBX⟩ hK
      rw [List.length_map] at hi
      gi_wp2
      exact after2 D2 X hD2 (hO.fin hi) hCa hBX hK

  refine wpIn_rangeFunc_ownI rfl (by omega) (gf := 76) (lb := #[.pointer (some ⟨w.heap.size + 4, 0, none⟩), .pointer (some ⟨w.heap.size + 3, 0, none⟩)]) rfl trivial (enters_of Try.func76 (by kernel_rfl) rfl)
    (HST.out W0 b4 b3 hB.size (fun j hj => hB.block j hj)) (fun h k => h.trans k) (fun X l o o' hl hl2 h1 h2 h3 => ⟨by simp, fun j o hj hs => (World.putObj_heap_other (fun e => by
        subst e
        rw [h1] at hj; cases hj
        rcases hs with (hs | hs | hs) | hs | hs
        · omega
        · omega
        · omega
        · obtain (⟨v, e⟩ | ⟨v, e⟩ | ⟨v, e⟩) := hs <;> (subst e; cases h2)
        · omega)).trans hj⟩) (Below.refl _ _) (fun x hx => by obtain ⟨y, _, rfl⟩ := List.mem_map.1 hx; rfl)
    (fun i X => WInv 64 68 (w.heap.size + 5) (w.heap.size + 1) M L i X ∧ Carry W0 (w.heap.size + 1) X ∧ Below w.heap.size w X)
    (fun c i X => c = .exit 0 ∧ WOut 64 68 (w.heap.size + 5) (w.heap.size + 1) M L i X ∧ Carry W0 (w.heap.size + 1) X ∧ Below w.heap.size w X)
    (fun i X Y row ⟨h1, h2, h3⟩ hg hr => ⟨WInv.ab h1 hg (fun r e => (hr r e).2), h2.abd hg (fun r e => (hr r e).1), h3.grown hg (by have := h3.size; omega) (fun r e => by have := (hr r e).1; have := hB.size; omega)⟩)
    (fun c i X Y row ⟨h0, h1, h2, h3⟩ hg hr => ⟨h0, WOut.ab h1 hg (fun r e => (hr r e).2), h2.abd hg (fun r e => (hr r e).1), h3.grown hg (by have := h3.size; omega) (fun r e => by have := (hr r e).1; have := hB.size; omega)⟩)
    ⟨⟨_, b1, World.ownsRow_nil _ _ _ _, Nat.zero_le _⟩, Carry.refl _ _, hB⟩
    (axAt L ?fr1) (axAt_own _ _) ?assign1 ?body1 ?done1 ?stop1
  case assign1 =>
    intro l i hi X K hI hK
    have hiL : i < L.length := by simpa using hi
    obtain ⟨z, hz⟩ : ∃ z, z = L[i] := ⟨_, rfl⟩
    rw [List.getElem_map, ← hz]
    have HZ := Lib.hid hz
    clear hz
    unfold encK
    gi_wp2
    refine hK _ _ (KeepsFrom.refl _ _) (KpO.refl _ _ _ _) hI ?_
    refine axAt_intro hiL HZ.out ?_
    exact Eq.refl _
  case body1 =>
    rintro l i hi a' X hl ⟨r0, hr0⟩ ⟨⟨v, hv, hrow, hlM⟩, hCa, hBX⟩ ⟨hiL, rfl⟩
    have hll : (L.take i).length = i := by rw [List.length_take]; omega
    have htk : L.take (i + 1) = L.take i ++ [L[i]] := List.take_succ_eq_append_getElem hiL
    obtain ⟨z, hz⟩ : ∃ z, z = L[i] := ⟨_, rfl⟩
    dsimp only
    rw [← hz] at htk ⊢
    clear hz
    obtain ⟨kx, ux⟩ := z
    simp only
    obtain ⟨sx, hsx⟩ : ∃ sx : ByteArray, sx = ⟨ux.toArray⟩ := ⟨_, rfl⟩
    have hcs : sawCs (L.take (i + 1)) = sawCs (L.take i) ++ [.int .i64 (kx : Nat), .string sx] := by rw [htk, sawCs_snoc, hsx]; rfl
    rw [← hsx]
    have HCS := Lib.hid hcs
    obtain ⟨a, cp, rfl⟩ := ownsRow_slice hrow
    have d0 := hCa.box b0 (by omega)
    have d3 := hCa.box b3 (by omega)
    have d4 := hCa.box b4 (by omega)
    have hc := hv.cell
    have hc0 := d0.cell
    have hszX := hBX.size
    have hszC := hCa.1
    have hzV := hB.size
    have D3 := Lib.hid d3
    have D4 := Lib.hid d4
    have HROW := Lib.hid hrow
    have HV := Lib.hid hv
    have HCA := Lib.hid hCa
    have HBX := Lib.hid hBX
    clear d0 d3 d4 hCa hBX hrow hv hr0 htk hcs hsx
    by_cases hML : i = M
    · have e1 : decide (M ≤ i) = true := decide_eq_true (by omega)
      have hfin : WOut 64 68 (w.heap.size + 5) (w.heap.size + 1) M L (i + 1) X := ⟨_, HV.out, by rw [← hML]; exact HROW.out, by rw [hML]⟩
      have HF := Lib.hid hfin
      clear hfin hML
      gi_wp2
      exact ⟨KeepsFrom.refl _ _, rfl, HF.out, HCA.out, HBX.out⟩
    · have e1 : decide (M ≤ i) = false := decide_eq_false (by omega)
      have hLp : i < 4194400 := by omega
      gi_wp2_with (gi_at_builtin; refine wpListIn_append_own _ rfl _ _ 64 rfl (w.heap.size + 5) 68 i0 (.agg #[.int .i64 0, .string ⟨#[]⟩]) 2 24 Try.underlying64 HI.out HZ0.out HZ1.out HZ2.out rfl (by decide) _ _ _ rfl (HROW.out.alloc _) ⟨X.heap.size, 0, none⟩ 1 1 [.int .i64 (kx : Nat), .string sx] rfl rfl (cell_two_newD _ _ _ _) (by simp [Value.oneCell']) (by unfold maxLen; omega) (by omega) (by simp; omega) ?_; intro v' w1 hown' hgrow _; obtain ⟨g', cap', rfl⟩ := ownsRow_succ hown'; obtain ⟨hv1, hv2, hr2, hk2, hb2, _, hb3⟩ := boxed_app (n₁ := w.heap.size) HV.out (by decide) HROW.out (by omega) (by omega) (by omega) hown' hgrow; have hc1 := hv1.cell; have hf1 := hv1.frozen; (have HV2 := Lib.hid hv2); (have HR2 := Lib.hid hr2); (have HK2 := Lib.hid hk2); (have HB2 := Lib.hid hb2); (have HB3 := Lib.hid hb3); (have HAK := Lib.hid (app_keeps (Q := QoE) (v' := .slice (some ⟨g', 0, none⟩) (i + 1) cap') HV.out qoe_box qoe_row HROW.out hgrow)); clear hv1 hv2 hr2 hk2 hb2 hb3 hown' hgrow)
      refine ⟨HK2.out.from _, ⟨HK2.out.size, fun j o ho hs => ?_⟩, ⟨_, HV2.out, ?_, by omega⟩, ⟨Nat.le_trans hszC HK2.out.size, fun j hj hjB => (HB3.out j (by omega) (by omega) hjB).trans (HCA.out.2 j hj hjB)⟩, HBX.out.trans HB2.out⟩
      · rcases hs with (hs | hs | hs) | hs | hs
        · exact (HB3.out j (by omega) (by omega) (by omega)).trans ho
        · subst hs
          rw [show X.heap[w.heap.size + 4]? = _ from D4.out] at ho
          cases ho
          exact HAK.out _ _ D4.out (.inl (.inl ⟨_, rfl⟩))
        · subst hs
          rw [show X.heap[w.heap.size + 3]? = _ from D3.out] at ho
          cases ho
          exact HAK.out _ _ D3.out (.inl (.inr (.inl ⟨_, rfl⟩)))
        · exact HAK.out _ _ ho (.inl hs)
        · exact HAK.out _ _ ho (.inr hs.2)
      · rw [HCS.out]
        exact HR2.out
  case done1 =>
    rintro D1 X hD1 ⟨hI, hCa, hBX⟩ hK
    rw [List.length_map] at hI
    exact after D1 X hD1 hI.fin hCa hBX hK
  case stop1 =>
    rintro D1 c i X hD1 hi ⟨rfl, hO, hCa, hBX⟩ hK
    rw [List.length_map] at hi
    gi_wp2
    exact after D1 X hD1 (hO.fin hi) hCa hBX hK

end Go.Proofs.Ytjgcmnppiaikcaa
