/- What a buffer has, asked twice. -/
import Derived.Test.YtgkbkkhlnidigaaBitsBuf4
import Derived.Test.YtgkbkkhlnidigaaSamesame
set_option linter.unusedVariables false
set_option linter.unusedSimpArgs false
namespace Go.Proofs.Ytgkbkkhlnidigaa
open Go.RowKit Go.Tk
theorem quiet_draw {P : Program} {f : FuncId} {args : Array Value} {w : World} {n : Nat} {v : Value}
    (h : Calls P f args (w.drewN n) fun e w' => e = .returned v ∧ ∃ m, w' = (w.drewN n).drewN m) : Calls P f args (w.drewN n) fun e w'' => e = .returned v ∧ ∃ m, w'' = w.drewN m :=
  h.mono fun _ _ ⟨he, m, hm⟩ => ⟨he, n + m, by rw [hm]; simp [World.drewN, Nat.add_assoc]⟩
theorem sameB_self (z : List Int) : sameB z z = true := by simp [sameB]
set_option maxRecDepth 100000 in
set_option maxHeartbeats 1000000 in
theorem asked_calls (w : World) (base p q : Nat) (most : Int) (st : List Int × Bool) (v u : Value) (hB : BufB w base p most st v) (hR : BufR w base q most st u) (hb : st.1.length ≤ 140737488355000) :
    Calls Try.prog 22 #[.pointer (some ⟨p, 0, none⟩), .pointer (some ⟨q, 0, none⟩)] w fun e w' => e = .returned (.bool true) ∧ Kept (fun _ => False) w w' := by
  obtain ⟨zs, hzs⟩ : ∃ zs, zs = if st.2 = true then [] else st.1 := ⟨_, rfl⟩
  obtain ⟨E, hE⟩ : ∃ E : Int, E = if st.2 = true then 1 else 0 := ⟨_, rfl⟩
  have hE0 : 0 ≤ E := by subst hE; split <;> omega
  have hE1 : E ≤ 1 := by subst hE; split <;> omega
  have hzl : zs.length ≤ 140737488355000 := by subst hzs; split <;> simp_all
  have b1 : ∀ w, BufB w base p most st v → Calls Try.prog 36 #[.pointer (some ⟨p, 0, none⟩)] w fun e w' => ∃ v, e = .returned (.tuple #[v, .int .i64 E]) ∧ OwC .u8 5 w.heap.size w' v zs ∧ Kept (fun _ => False) w w' := by
    intro w hB; rw [hzs, hE]; exact bytes_calls w base p most st v hB (by omega)
  have b2 : ∀ w, BufR w base q most st u → Calls Try.prog 54 #[.pointer (some ⟨q, 0, none⟩)] w fun e w' => ∃ v, e = .returned (.tuple #[v, .int .i64 E]) ∧ Ow .u8 5 w.heap.size w' v zs ∧ Kept (fun _ => False) w w' := by
    intro w hR; rw [hzs, hE]; exact rbytes_calls w base q most st u hR (by omega)
  clear hzs hE
  go_enter Try.func22, Try.ntmps22
  go_wp2_with (go_at_call 36; refine (b1 _ hB).mono ?_; rintro e w1 ⟨v1, rfl, o1, k1⟩; obtain ⟨a1, c1, rfl, ow1⟩ := o1; have hB1 := hB.kept k1 (fun _ _ h => h); have hR1 := hR.kept k1 (fun _ _ h => h))
  go_wp2_with (go_at_call 36; refine (b1 _ hB1).mono ?_; rintro e w2 ⟨v2, rfl, o2, k2⟩; have o2l := o2.lt; obtain ⟨a2, rfl, s2⟩ := o2.sl; have hB2 := hB1.kept k2 (fun _ _ h => h); have hR2 := hR1.kept k2 (fun _ _ h => h))
  go_wp2_with (go_at_call 54; refine (b2 _ hR2).mono ?_; rintro e w3 ⟨v3, rfl, o3, k3⟩; have o3l := o3.lt; obtain ⟨a3, c3, rfl, s3, _⟩ := o3.sl; have hB3 := hB2.kept k3 (fun _ _ h => h); have hR3 := hR2.kept k3 (fun _ _ h => h); obtain ⟨ua, uc, rfl, hus, _⟩ := hR3.own.sl; have ul := hus.le; have um := hus.max; have cq : w3.cell? ⟨q, 1, none⟩ = some (.slice ua st.1.length uc) := (by rw [cell_of_row w3 q 1 _ _ _ hR3.blk]; rfl))
  have s1 : SlI .u8 w3 a1 zs.length zs.length zs := by
    obtain ⟨a', c', he, hs, _⟩ := ow1.sl
    simp at he
    obtain ⟨rfl, rfl⟩ := he
    have h3 := (hs.kept k2 (fun _ _ h => h)).kept k3 (fun _ _ h => h)
    exact ⟨h3.len, Nat.le_refl _, by have := h3.max; have := h3.le; omega, h3.cell⟩
  have s2' := s2.kept k3 (fun _ _ h => h)
  have q1 := fun n => by have := same_calls (w3.drewN n) _ _ _ _ _ _ _ _ (s1.drewN n) (s3.drewN n); rw [sameB_self] at this; exact quiet_draw this
  have q2 := fun n => by have := same_calls (w3.drewN n) _ _ _ _ _ _ _ _ (s2'.drewN n) (s3.drewN n); rw [sameB_self] at this; exact quiet_draw this
  have q3 := fun n => quiet_eq (len_calls (w3.drewN n) base p most st _ (hB3.drewN n))
  go_quiet ((first | (go_at_call 16; (first | with_reducible exact q1 _ | with_reducible exact q2 _)) | (go_at_call 31; with_reducible exact q3 _)))
  have f3 : Ow .u8 5 w.heap.size (w3.drewN nq) (.slice a1 zs.length c1) zs := (((ow1.kept2 k2 (fun _ _ h => h)).kept2 k3 (fun _ _ h => h))).drewN nq
  have f4 : SlI .u8 (w3.drewN nq) a2 zs.length zs.length zs := s2'.drewN nq
  have f5 : SlI .u8 (w3.drewN nq) a3 zs.length c3 zs := s3.drewN nq
  have f6 : Kept (fun _ => False) w (w3.drewN nq) := ((k1.trans k2 (fun _ h => h.elim)).trans k3 (fun _ h => h.elim)).drewN nq
  have n1 : ∀ g, (Value.slice a1 zs.length c1).ownBlock = some g → w.heap.size ≤ g ∧ g < w1.heap.size := ow1.lt
  have n2 : ∀ x, a2 = some x → w1.heap.size ≤ x.block ∧ x.block < (w3.drewN nq).heap.size := fun x hx => by have h1 := o2l x.block (by rw [hx]; rfl); have h2 := k3.size; exact ⟨h1.1, Nat.lt_of_lt_of_le h1.2 h2⟩
  have n3 : ∀ x, a3 = some x → w2.heap.size ≤ x.block ∧ x.block < (w3.drewN nq).heap.size := fun x hx => o3l x.block (by rw [hx]; rfl)
  have z1 := k1.size
  have z2 := k2.size
  have z3 : w2.heap.size ≤ (w3.drewN nq).heap.size := k3.size
  clear q1 q2 q3 s1 s2' cq ul um hus hR3 hR2 hR1 hB3 s3 o3 o3l s2 o2 o2l hB2 ow1 hB1 b1 b2 k1 k2 k3 hB hR
  generalize w3.drewN nq = wq at *
  go_wp2
  go_loopw [11] (fun i wr => ∃ (j : Nat) (ys : List Int), i = .int .i64 j ∧ j ≤ zs.length ∧ ys.length = zs.length ∧ Ow .u8 5 w.heap.size wr (.slice a1 zs.length c1) ys ∧ Kept (fun g => (Value.slice a1 zs.length c1).ownBlock = some g) wq wr) (fun i _ => zs.length - (intOf i).toNat)
  case atStart => exact ⟨0, zs, rfl, by omega, rfl, f3, Kept.refl _ _⟩
  case round =>
    obtain ⟨j, ys, rfl, hj, hy, how, hk⟩ := hrel
    by_cases hm : j < zs.length
    · have hjy : j < ys.length := by omega
      have hy0 : ys.length = (ys.set j 99).length := by simp
      have HY := Lib.hid (hy0.symm.trans hy)
      clear hy hy0
      obtain ⟨g, rfl, hg1, hg2, hcj, hfj, hset⟩ := how.at j hjy
      go_wp2
      go_roundw
      case rel => exact ⟨j + 1, _, by simp, by omega, HY.out, hset 99, hk.setCell (p := ⟨g, j, none⟩) (.inl rfl) (.int .u8 99)⟩
      case measure => simp [intOf]; omega
    · rename World => wo
      have HY := Lib.hid hy
      clear hy
      have g4 := f4.kept hk (fun x hx e => by
        have h1 := n1 x.block e
        have h2 := n2 x hx
        omega)
      have g5 := f5.kept hk (fun x hx e => by
        have h1 := n1 x.block e
        have h2 := n3 x hx
        omega)
      have kw : Kept (fun _ => False) w wo := by
        have hh := f6.trans hk (fun i hi => .inr (n1 i hi).1)
        exact hh
      have zr := hk.size
      have n1' : ∀ g, (Value.slice a1 zs.length c1).ownBlock = some g → w.heap.size ≤ g ∧ g < wo.heap.size := fun g hg => by have h1 := n1 g hg; omega
      have cap : OwC .u8 5 w.heap.size wo (.slice a1 zs.length zs.length) ys := ⟨a1, c1, by rw [HY.out], by rw [HY.out]; exact how⟩
      have HW := Lib.hid hj
      clear how hk f3 f4 f5 f6
      go_wp2
      go_loopw [12, 13] (fun gv i wt => ∃ (k : Nat) (xs : List Int), i = .int .i64 k ∧ k ≤ 9 ∧ xs.length = zs.length + k ∧ ((k = 0 ∧ OwC .u8 5 w.heap.size wt gv xs) ∨ Ow .u8 5 wo.heap.size wt gv xs) ∧ Kept (fun _ => False) wo wt) (fun _ i _ => 9 - (intOf i).toNat)
      case atStart => exact ⟨0, ys, rfl, by omega, HY.out, .inl ⟨rfl, cap⟩, Kept.refl _ _⟩
      case round =>
        obtain ⟨k, xs, rfl, hk9, hx, how, hkt⟩ := hrel
        have zt := hkt.size
        have HX := Lib.hid hx
        have hxl : xs.length ≤ 140737488355100 := by omega
        clear hx
        by_cases hm : k < 9
        · have hone : SlI .u8 (wr.alloc (.cells #[.int .u8 98] 5)) (some ⟨wr.heap.size, 0, none⟩) 1 1 [98] := SlI.one _ _ _ _
          have hlen : Hid ((xs ++ [(98:Int)]).length = zs.length + (k + 1)) := by
            refine Lib.hid ?_
            have := HX.out
            simp; omega
          rcases how with ⟨hk0, how⟩ | how
          · have how' : OwC .u8 5 w.heap.size (wr.alloc (.cells #[.int .u8 98] 5)) u12 xs := how.kept2 ((Kept.refl (fun _ => False) wr).alloc _) (fun _ _ h => h)
            obtain ⟨va, vc, rfl, howx⟩ := id how
            go_wp2_with (at_builtin; refine wpList_appC rfl (.tmp 68) (.tmp 69) _ rfl .u8 w.heap.size 5 _ 1 Try.underlying22 Try.infoU8 rfl _ xs rfl how' _ 1 1 _ rfl hone (by omega) (by omega) (by omega) ?_; intro v' w' ow' hg')
            have k' : Kept (fun _ => False) wo w' := (hkt.alloc _).trans ((Kept.of_grown hg').mono (T := fun _ => False) (fun i hi => by simp at hi)) (fun i hi => hi.elim)
            have ow2 : Ow .u8 5 wo.heap.size w' v' (xs ++ [98]) := ow'.mono (by simp; omega)
            clear hg' how how' ow'
            go_wp2
            go_roundw
            case rel => exact ⟨k + 1, _, by simp; omega, by omega, hlen.out, .inr ow2, k'⟩
            case measure => simp [intOf]; omega
          · obtain ⟨va, vc, rfl, _, _⟩ := how.sl
            go_wp2_with (at_builtin; refine wpList_appJ rfl (.tmp 68) (.tmp 69) _ rfl .u8 wo.heap.size 5 _ 1 Try.underlying22 Try.infoU8 rfl _ xs rfl (how.alloc _) _ 1 1 _ rfl hone (by simp) (by omega) (by omega) (by simp; omega) ?_; intro v' w' ow' hg' st')
            have k' : Kept (fun _ => False) wo w' := (hkt.alloc _).trans (Kept.of_grown hg') (fun i hi => .inr (how.lt i hi).1)
            clear hg' st' how
            go_wp2
            go_roundw
            case rel => exact ⟨k + 1, _, by simp, by omega, hlen.out, .inr ow', k'⟩
            case measure => simp [intOf]; omega
        · have how9 : Ow .u8 5 wo.heap.size wr u12 xs := by
            rcases how with ⟨h0, _⟩ | h
            · omega
            · exact h
          obtain ⟨va, vc, rfl, hsl, _⟩ := how9.sl
          have hxn : xs.length = zs.length + 9 := by have := HX.out; omega
          have hs2 := g4.kept hkt (fun _ _ h => h)
          have hs3 := g5.kept hkt (fun _ _ h => h)
          have kfin : Kept (fun _ => False) w wr := kw.trans hkt (fun _ h => h.elim)
          have hq := same_calls wr _ _ _ _ _ _ _ _ hs2 hs3
          rw [sameB_self] at hq
          rw [hxn] at *
          clear how how9 hxn hsl
          go_wp2_with (go_at_call 16; refine hq.mono ?_; rintro e w5 ⟨rfl, m5, rfl⟩)
          go_ret
          exact ⟨rfl, kfin.drewN _⟩
end Go.Proofs.Ytgkbkkhlnidigaa
