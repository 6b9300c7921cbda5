/- VaG VaH, laid as one. -/
import Derived.Test.YtlhcejbimlilaaaGreatDoorVaE
import Derived.Test.YtlhcejbimlilaaaGreatDoorVaF
import Derived.Test.YtlhcejbimlilaaaGreatDoorUtfD
set_option linter.unusedVariables false
set_option linter.unusedSimpArgs false
/- The program's own texts of decimals, integers, doubles; the rows' small functions; what find's closures answer. -/
namespace Go.Tk
open Go Go.RowKit
theorem below_box {w w1 w2 : World} (hb1 : Below w.heap.size w w1) (o : Obj) (hb2 : Below (w1.alloc o).heap.size (w1.alloc o) w2) : Below w.heap.size w w2 :=
  (hb1.trans (((Below.refl w1.heap.size w1).alloc (Nat.le_refl _) o).mono hb1.size)).trans (hb2.mono (by have := hb1.size; simp; omega))
end Go.Tk
namespace Go.Proofs.YtlhcejbimlilaaaGreatDoor
open Go.RowKit Go.Tk
theorem mkN_bd (b : Bool) (a p : List UInt8) (e : Int) : (mkN b a p e).dg.length ≤ a.length + p.length ∧ (mkN b a p e).inf = 0 ∧ ((mkN b a p e).dg ≠ [] → e - p.length ≤ (mkN b a p e).pw ∧ (mkN b a p e).pw ≤ a.length + e) ∧ ((mkN b a p e).dg = [] → (mkN b a p e).pw = 0) := by
  unfold mkN
  split
  · simp [nmZ]
  · rename_i h
    have h1 := tl0_le (a ++ p)
    have h2 := tr0_le (tl0 (a ++ p))
    rw [List.length_append] at h1
    refine ⟨by dsimp only; omega, rfl, fun _ => ?_, fun h3 => absurd h3 h⟩
    dsimp only
    rw [List.length_append]
    omega
theorem mkN_int (b : Bool) (a : List UInt8) : (mkN b a [] 0).dg.length ≤ a.length ∧ ((mkN b a [] 0).dg ≠ [] → ((mkN b a [] 0).dg.length : Int) ≤ (mkN b a [] 0).pw ∧ (mkN b a [] 0).pw ≤ a.length) := by
  have hb := mkN_bd b a [] 0
  refine ⟨by simpa using hb.1, fun h => ⟨?_, by have := (hb.2.2.1 h).2; simpa using this⟩⟩
  have h2 := tr0_le (tl0 (a ++ []))
  have h1 := tl0_le (a ++ [])
  unfold mkN at h ⊢
  split
  · rename_i e; rw [if_pos e] at h; simp [nmZ] at h
  · dsimp only
    rw [List.append_nil] at *
    omega
theorem decP_bd {l : List UInt8} {n : Nm} (h : decP l = some n) : n.dg.length ≤ l.length ∧ n.inf = 0 ∧ -(l.length : Int) ≤ n.pw ∧ n.pw ≤ l.length := by
  unfold decP at h
  split at h
  · obtain rfl := Option.some.inj h
    have hb := mkN_bd (sgnB l) (ctA (sgnR l)) (ctB (sgnR l)) 0
    have h1 := ct_le (sgnR l)
    have h2 := sgnR_le l
    refine ⟨by omega, hb.2.1, ?_⟩
    by_cases hz : (mkN (sgnB l) (ctA (sgnR l)) (ctB (sgnR l)) 0).dg = []
    · have := hb.2.2.2 hz; omega
    · have := hb.2.2.1 hz; omega
  · cases h
theorem intP_bd {l : List UInt8} {n : Nm} (h : intP l = some n) : n.dg.length ≤ l.length ∧ n.inf = 0 ∧ (n.dg ≠ [] → (n.dg.length : Int) ≤ n.pw ∧ n.pw ≤ l.length) := by
  unfold intP at h
  split at h
  · obtain rfl := Option.some.inj h
    have hb := mkN_int (sgnB l) (sgnR l)
    have h2 := sgnR_le l
    refine ⟨by omega, (mkN_bd _ _ _ _).2.1, fun hz => ?_⟩
    have := hb.2 hz; omega
  · cases h
theorem expZ_bd {x : List UInt8} (h : okE x = true) : -1000000000 < expZ x ∧ expZ x < 1000000000 := by
  unfold okE at h
  simp at h
  have := numN_lt _ h.2 h.1.2
  unfold expZ
  split <;> omega
theorem dblP_bd {l : List UInt8} {n : Nm} (h : dblP l = some n) : n.dg.length ≤ l.length ∧ (-1 ≤ n.inf ∧ n.inf ≤ 1) ∧ -(l.length : Int) - 1000000000 ≤ n.pw ∧ n.pw ≤ l.length + 1000000000 := by
  unfold dblP at h
  split at h
  · obtain rfl := Option.some.inj h; simp [nmNaN]; omega
  split at h
  · obtain rfl := Option.some.inj h; simp [nmInf]; omega
  split at h
  · obtain rfl := Option.some.inj h; simp [nmInf]; omega
  split at h
  · have := decP_bd h; omega
  split at h
  · rename_i ho
    simp only [Bool.and_eq_true] at ho
    have he := expZ_bd ho.2
    obtain rfl := Option.some.inj h
    have hb := mkN_bd (sgnB (hdE l)) (ctA (sgnR (hdE l))) (ctB (sgnR (hdE l))) (expZ (tlE l))
    have h1 := ct_le (sgnR (hdE l))
    have h2 := sgnR_le (hdE l)
    have h3 := hdE_le l
    refine ⟨by omega, by omega, ?_⟩
    by_cases hz : (mkN (sgnB (hdE l)) (ctA (sgnR (hdE l))) (ctB (sgnR (hdE l))) (expZ (tlE l))).dg = []
    · have := hb.2.2.2 hz; omega
    · have := hb.2.2.1 hz; omega
  · cases h
set_option maxHeartbeats 1000000 in
theorem ownDecimal_calls (s : ByteArray) (n : Nm) (w : World) (hs : s.size ≤ 65536) (hn : decP s.data.toList = some n) :
    Calls Tryz.prog 52 #[.string s] w fun e w' => e = .returned (.tuple #[.string ⟨(plN n).toArray⟩, .bool true]) ∧ Below w.heap.size w w' := by
  have hb := decP_bd hn
  have hl : s.data.toList.length = s.size := (Lib.size_eq s).symm
  have hd := fun w => decimal_calls s w (by omega)
  rw [hn] at hd
  have hd : ∀ w, Calls Tryz.prog 51 #[.string s] w fun e w' => e = .returned (.tuple #[n.val, .bool true]) ∧ Below w.heap.size w w' := hd
  have hp := fun w => plain_calls n w (by omega) (by omega)
  obtain ⟨T, hT⟩ : ∃ T : ByteArray, T = ⟨(plN n).toArray⟩ := ⟨_, rfl⟩
  rw [← hT] at hp ⊢
  obtain ⟨bl, dg, pw, inf, nan⟩ := n
  unfold Nm.val at hd hp
  dsimp only at hd hp
  have HD := Lib.hid hd
  have HP := Lib.hid hp
  clear hd hp hT hb hl hn
  go_enter Tryz.func52, Tryz.ntmps52
  go_wp2_with (first | (go_at_call 51; (with_reducible refine (HD.out _).mono ?_); rintro e w1 ⟨rfl, hb1⟩) | (go_at_call 98; (with_reducible refine (HP.out _).mono ?_); rintro e w2 ⟨rfl, hb2⟩))
  go_ret2
  exact ⟨rfl, below_box hb1 _ hb2⟩
set_option maxHeartbeats 1000000 in
theorem ownInteger_calls (s : ByteArray) (n : Nm) (w : World) (hs : s.size ≤ 65536) (hn : intP s.data.toList = some n) :
    Calls Tryz.prog 68 #[.string s] w fun e w' => e = .returned (.tuple #[.string ⟨(whN n).toArray⟩, .bool true]) ∧ Below w.heap.size w w' := by
  have hb := intP_bd hn
  have hl : s.data.toList.length = s.size := (Lib.size_eq s).symm
  have hd := fun w => integer_calls s w (by omega)
  rw [hn] at hd
  have hd : ∀ w, Calls Tryz.prog 105 #[.string s] w fun e w' => e = .returned (.tuple #[n.val, .bool true]) ∧ Below w.heap.size w w' := hd
  have hp := fun w => whole_calls n w (by omega) (fun h => by have := hb.2.2 h; omega)
  obtain ⟨T, hT⟩ : ∃ T : ByteArray, T = ⟨(whN n).toArray⟩ := ⟨_, rfl⟩
  rw [← hT] at hp ⊢
  obtain ⟨bl, dg, pw, inf, nan⟩ := n
  unfold Nm.val at hd hp
  dsimp only at hd hp
  have HD := Lib.hid hd
  have HP := Lib.hid hp
  clear hd hp hT hb hl hn
  go_enter Tryz.func68, Tryz.ntmps68
  go_wp2_with (first | (go_at_call 105; (with_reducible refine (HD.out _).mono ?_); rintro e w1 ⟨rfl, hb1⟩) | (go_at_call 106; (with_reducible refine (HP.out _).mono ?_); rintro e w2 ⟨rfl, hb2⟩))
  go_ret2
  exact ⟨rfl, below_box hb1 _ hb2⟩
set_option maxHeartbeats 1000000 in
theorem ownDouble_calls (s : ByteArray) (n : Nm) (w : World) (hs : s.size ≤ 65536) (hn : dblP s.data.toList = some n) (hpw : Pow w) :
    Calls Tryz.prog 55 #[.string s] w fun e w' => e = .returned (.tuple #[.string ⟨((scN n).getD []).toArray⟩, .bool (scN n).isSome]) ∧ Below w.heap.size w w' := by
  have hb := dblP_bd hn
  have hl : s.data.toList.length = s.size := (Lib.size_eq s).symm
  have hd := fun w => double_calls s w (by omega)
  rw [hn] at hd
  have hd : ∀ w, Calls Tryz.prog 54 #[.string s] w fun e w' => e = .returned (.tuple #[n.val, .bool true]) ∧ Below w.heap.size w w' := hd
  have hp := fun w (h : Pow w) => scientific_calls n w h (by omega) (by omega)
  obtain ⟨T, hT⟩ : ∃ T : ByteArray, T = ⟨((scN n).getD []).toArray⟩ := ⟨_, rfl⟩
  obtain ⟨ok, hok⟩ : ∃ b, b = (scN n).isSome := ⟨_, rfl⟩
  rw [← hT, ← hok] at hp ⊢
  have HPW := Lib.hid hpw
  clear hpw hok
  obtain ⟨bl, dg, pw, inf, nan⟩ := n
  unfold Nm.val at hd hp
  dsimp only at hd hp
  have HD := Lib.hid hd
  have HP := Lib.hid hp
  clear hd hp hT hb hl hn
  go_enter Tryz.func55, Tryz.ntmps55
  go_wp2_with (first | (go_at_call 54; (with_reducible refine (HD.out _).mono ?_); rintro e w1 ⟨rfl, hb1⟩) | (go_at_call 101; (with_reducible refine (HP.out _ (HPW.out.below (hb1.trans (((Below.refl w1.heap.size w1).alloc (Nat.le_refl _) _).mono hb1.size)))).mono ?_); rintro e w2 ⟨rfl, hb2⟩))
  go_ret2
  exact ⟨rfl, below_box hb1 _ hb2⟩
theorem same_calls (s : ByteArray) (w : World) : Calls Tryz.prog 48 #[.string s] w fun e w' => e = .returned (.tuple #[.string s, .bool true]) ∧ w = w' := by
  go_enter Tryz.func48, Tryz.ntmps48
  go_wp2_with fail
  go_ret2
  exact ⟨rfl, rfl⟩
end Go.Proofs.YtlhcejbimlilaaaGreatDoor
/- The program's boolean, truth, great. -/
namespace Go.Tk
open Go Go.RowKit
def tTrue : List UInt8 := [116, 114, 117, 101]
def tFalse : List UInt8 := [102, 97, 108, 115, 101]
def booP (l : List UInt8) : Bool := l == tTrue || l == tFalse || l == [49] || l == [48]
def truP (l : List UInt8) : List UInt8 := if l = [49] ∨ l = tTrue then tTrue else tFalse
def gtC (c : UInt8) : UInt8 := if 97 ≤ c.toNat ∧ c.toNat ≤ 122 then c - 32 else c
def gtP (l : List UInt8) : List UInt8 := l.map gtC
/-- The first k bytes great. -/
def gtM (l : List UInt8) (k : Nat) : List UInt8 := gtP (l.take k) ++ l.drop k
theorem gtM_len (l : List UInt8) (k : Nat) : (gtM l k).length = l.length := by
  unfold gtM gtP; rw [List.length_append, List.length_map, List.length_take, List.length_drop]; omega
theorem gtM_0 (l : List UInt8) : gtM l 0 = l := rfl
theorem gtM_all (l : List UInt8) : gtM l l.length = gtP l := by unfold gtM; rw [List.take_length, List.drop_length, List.append_nil]
theorem gtM_get (l : List UInt8) (k : Nat) (h : k < l.length) (h2 : k < (gtM l k).length) : (gtM l k)[k] = l[k] := by
  simp only [gtM, gtP, List.getElem_append, List.length_map, List.length_take]
  rw [dif_neg (by omega)]
  simp only [List.getElem_drop]
  congr 1
  omega
theorem gtM_step (l : List UInt8) (k : Nat) (h : k < l.length) : (gtM l k).set k (gtC l[k]) = gtM l (k + 1) := by
  unfold gtM gtP
  have h1 : ((l.take k).map gtC).length = k := by rw [List.length_map, List.length_take]; omega
  rw [List.set_append, if_neg (by omega), h1, Nat.sub_self, List.drop_eq_getElem_cons h, List.set_cons_zero, List.take_succ_eq_append_getElem h, List.map_append, List.append_assoc]
  rfl
theorem gtM_keep (l : List UInt8) (k : Nat) (h : k < l.length) (hc : gtC l[k] = l[k]) : gtM l k = gtM l (k + 1) := by
  rw [← gtM_step l k h, hc, ← gtM_get l k h (by rw [gtM_len]; exact h), List.set_getElem_self]
/-- Bytes in a block of the call's own, by []byte(s): they may be written. -/
structure BtR (w x : World) (l : List UInt8) : Prop where
  cell : ∀ i (h : i < l.length), x.cell? ⟨w.heap.size, i, none⟩ = some (.int .u8 ((l[i]).toNat : Int))
  free : ∀ i, i < l.length → x.frozen? ⟨w.heap.size, i, none⟩ = false
  below : Below w.heap.size w x
theorem BtR.set {w x : World} {l : List UInt8} (h : BtR w x l) (i : Nat) (hi : i < l.length) (c : UInt8) : BtR w (x.setCell ⟨w.heap.size, i, none⟩ (.int .u8 (c.toNat : Int))) (l.set i c) := by
  refine ⟨fun j hj => ?_, fun j hj => ?_, h.below.setCell (by simp) _⟩
  · have hj2 : j < l.length := by simpa using hj
    by_cases e : j = i
    · subst e
      rw [World.cell?_setCell_same _ _ _ (h.cell j hj2), List.getElem_set_self]
    · rw [World.cell?_setCell_other _ _ _ _ (by first | (simp; done) | (simp; exact fun h => e h.symm)), h.cell j hj2]
      simp [List.getElem_set, Ne.symm e]
  · have hj2 : j < l.length := by simpa using hj
    rw [World.frozen?_setCell]; exact h.free j hj2
theorem wpList_toOwn {P : Program} {w : World} {ops : Array Oper} {rest : List Oper} {o : Oper} {a : Act} {Q : Exit → Act → World → Prop} (hg : o.guard = none) (x : Operand) (src dst : TypeId)
    (ho : o.op = .convert src dst x) (s : ByteArray) (hx : a.eval x = .string s) (e : TypeId) (hs : P.underlying src = some .string) (hd : P.underlying dst = some (.slice e)) (he : P.underlying e = some (.int .u8)) (hz : s.size ≤ 9223372036854775807)
    (hK : ∀ w' c, BtR w w' s.data.toList → s.size ≤ c → c ≤ 9223372036854775807 → wpList P ops Q rest (a.put o.dst (.slice (some ⟨w.heap.size, 0, none⟩) s.size c)) w') :
    wpList P ops Q (o :: rest) a w := by
  refine wpList_plain hg fun K hK' => ?_
  have hrun := run_bytes_of_string (P := P) w src dst e s hs hd he
  unfold Oper.wp
  simp only [execOp, ho, hx, Sem.run_bind, hrun, Result.andThen, Sem.run_pure, Oper.upon]
  have hc1 := grownCap_ge w s.size 0 e
  have hc2 := grownCap_le_maxLen w s.size 0 e (by simpa [maxLen] using hz)
  refine hK' _ _ (hK _ _ ⟨fun i hi => ?_, fun i hi => ?_, below_drewN (Below.refl _ _) 1 |>.alloc (Nat.le_refl _) _⟩ hc1 (by simpa [maxLen] using hc2))
  · have := World.cell?_alloc_mark w.drew (bytesRow s (grownCap w s.size 0 e)) e ((bytesRow s (grownCap w s.size 0 e)).size, (bytesRow s (grownCap w s.size 0 e)).size + 1) i
    refine this.trans ?_
    unfold bytesRow
    have hi' : i < s.data.size := hi
    rw [Array.getElem?_append_left (by simpa using hi'), Array.getElem?_map, Array.getElem?_eq_getElem hi']
    rfl
  · have hi' : i < s.data.size := hi
    have := World.frozen?_alloc_mark w.drew (bytesRow s (grownCap w s.size 0 e)) e (bytesRow s (grownCap w s.size 0 e)).size ((bytesRow s (grownCap w s.size 0 e)).size + 1) i
    refine this.trans ?_
    have hsz : i < (bytesRow s (grownCap w s.size 0 e)).size := by
      unfold bytesRow; rw [Array.size_append, Array.size_map]; omega
    rw [decide_eq_false (by omega)]; rfl
theorem BtR.str {P : Program} {w x : World} {l : List UInt8} {src dst e : TypeId} (h : BtR w x l) (hs : P.underlying src = some (.slice e)) (he : P.underlying e = some (.int .u8)) (hd : P.underlying dst = some .string) (cap : Nat) :
    (convert src dst (.slice (some ⟨w.heap.size, 0, none⟩) l.length cap)).run P x = .ok (.string ⟨l.toArray⟩) x :=
  run_convert_bytes_back x src dst e ⟨w.heap.size, 0, none⟩ cap l hs he hd fun j hj => by
    rw [Addr.add_lit, Nat.zero_add]
    exact h.cell j hj
end Go.Tk
namespace Go.Proofs.YtlhcejbimlilaaaGreatDoor
open Go.RowKit Go.Tk
theorem boolean_calls (s : ByteArray) (w : World) : Calls Tryz.prog 49 #[.string s] w fun e w' => e = .returned (.bool (booP s.data.toList)) ∧ w = w' := by
  have d1 := Lib.toList_data s
  have e1 : (s.toList == [116, 114, 117, 101]) = (s.data.toList == tTrue) := by rw [d1]; rfl
  have e2 : (s.toList == [102, 97, 108, 115, 101]) = (s.data.toList == tFalse) := by rw [d1]; rfl
  have e3 : (s.toList == [49]) = (s.data.toList == [49]) := by rw [d1]
  have e4 : (s.toList == [48]) = (s.data.toList == [48]) := by rw [d1]
  have hb : booP s.data.toList = (s.data.toList == tTrue || s.data.toList == tFalse || s.data.toList == [49] || s.data.toList == [48]) := rfl
  rw [hb]
  cases h1 : s.data.toList == tTrue with
  | true =>
    rw [h1] at e1
    clear hb d1 e2 e3 e4 h1
    go_enter Tryz.func49, Tryz.ntmps49
    go_wp2_with fail
    go_ret
    exact ⟨rfl, rfl⟩
  | false =>
  rw [h1] at e1
  cases h2 : s.data.toList == tFalse with
  | true =>
    rw [h2] at e2
    clear hb d1 e3 e4 h1 h2
    go_enter Tryz.func49, Tryz.ntmps49
    go_wp2_with fail
    go_ret
    exact ⟨rfl, rfl⟩
  | false =>
  rw [h2] at e2
  cases h3 : s.data.toList == [49] with
  | true =>
    rw [h3] at e3
    clear hb d1 e4 h1 h2 h3
    go_enter Tryz.func49, Tryz.ntmps49
    go_wp2_with fail
    go_ret
    exact ⟨rfl, rfl⟩
  | false =>
  rw [h3] at e3
  cases h4 : s.data.toList == [48] with
  | true =>
    rw [h4] at e4
    clear hb d1 h1 h2 h3 h4
    go_enter Tryz.func49, Tryz.ntmps49
    go_wp2_with fail
    go_ret
    exact ⟨rfl, rfl⟩
  | false =>
    rw [h4] at e4
    clear hb d1 h1 h2 h3 h4
    go_enter Tryz.func49, Tryz.ntmps49
    go_wp2_with fail
    go_ret
    exact ⟨rfl, rfl⟩
theorem truth_calls (s : ByteArray) (w : World) : Calls Tryz.prog 31 #[.string s] w fun e w' => e = .returned (.tuple #[.string ⟨(truP s.data.toList).toArray⟩, .bool true]) ∧ w = w' := by
  have d1 := Lib.toList_data s
  by_cases h1 : s.data.toList = [49]
  · have e : truP s.data.toList = tTrue := by unfold truP; rw [if_pos (.inl h1)]
    have e1 : (s.toList == [49]) = true := by rw [d1, h1]; rfl
    rw [e]
    clear e h1 d1
    go_enter Tryz.func31, Tryz.ntmps31
    go_wp2_with fail
    go_ret2
    exact ⟨rfl, rfl⟩
  · have e1 : (s.toList == [49]) = false := by rw [d1]; exact beq_false_of_ne h1
    by_cases h2 : s.data.toList = tTrue
    · have e : truP s.data.toList = tTrue := by unfold truP; rw [if_pos (.inr h2)]
      have e2 : (s.toList == [116, 114, 117, 101]) = true := by rw [d1, h2]; rfl
      rw [e]
      clear e h1 h2 d1
      go_enter Tryz.func31, Tryz.ntmps31
      go_wp2_with fail
      go_ret2
      exact ⟨rfl, rfl⟩
    · have e : truP s.data.toList = tFalse := by unfold truP; rw [if_neg (by intro h; rcases h with h | h; exact h1 h; exact h2 h)]
      have e2 : (s.toList == [116, 114, 117, 101]) = false := by rw [d1]; exact beq_false_of_ne h2
      rw [e]
      clear e h1 h2 d1
      go_enter Tryz.func31, Tryz.ntmps31
      go_wp2_with fail
      go_ret2
      exact ⟨rfl, rfl⟩
set_option maxHeartbeats 1000000 in
theorem great_calls (s : ByteArray) (w : World) (hs : s.size ≤ 4000000000) : Calls Tryz.prog 63 #[.string s] w fun e w' => e = .returned (.tuple #[.string ⟨(gtP s.data.toList).toArray⟩, .bool true]) ∧ Below w.heap.size w w' := by
  obtain ⟨L, hL⟩ : ∃ L, L = s.data.toList := ⟨_, rfl⟩
  have hl : L.length = s.size := by rw [hL, Lib.size_eq]
  rw [← hL]
  have HL := Lib.hid hl
  have HS := Lib.hid hL
  clear hl hL
  go_enter Tryz.func63, Tryz.ntmps63
  go_wp2_with (refine wpList_toOwn rfl (.tmp 7) 9 65 rfl _ rfl 5 Tryz.underlying9 Tryz.underlying65 Tryz.underlying5 (by omega) ?_; intro w1 c hB hc1 hc2; (have HB := Lib.hid hB); clear hB)
  go_loopw [5, 6, 11] (fun _ _ i wr => ∃ k : Nat, k ≤ s.size ∧ i = .int .i64 (k : Nat) ∧ BtR w wr (gtM L k)) (fun _ _ i _ => s.size - (intOf i).toNat)
  case atStart => exact ⟨0, Nat.zero_le _, rfl, by rw [gtM_0, HS.out]; exact HB.out⟩
  case round =>
    obtain ⟨k, hk, rfl, hR⟩ := hrel
    by_cases hlt : k < s.size
    · have hkl : k < L.length := by rw [HL.out]; exact hlt
      have hkm : k < (gtM L k).length := by rw [gtM_len]; exact hkl
      have hce := hR.cell k hkm
      rw [gtM_get L k hkl hkm] at hce
      have hfz := hR.free k hkm
      obtain ⟨b, hb⟩ : ∃ b, b = L[k] := ⟨_, rfl⟩
      rw [← hb] at hce
      obtain ⟨x, hx⟩ : ∃ x : Int, x = (b.toNat : Int) := ⟨_, rfl⟩
      rw [← hx] at hce
      have x0 : 0 ≤ x := by omega
      have x1 : x < 256 := by have := UInt8.toNat_lt b; omega
      by_cases c1 : 97 ≤ x ∧ x ≤ 122
      · have hg : (gtC b).toNat = b.toNat - 32 := by
          unfold gtC; rw [if_pos (by omega)]
          rw [UInt8.toNat_sub_of_le _ _ (by rw [UInt8.le_iff_toNat_le]; show 32 ≤ _; omega)]; rfl
        have hst := hR.set k hkm (gtC b)
        rw [show (((gtC b).toNat : Nat) : Int) = x - 32 by omega] at hst
        rw [hb] at hst
        rw [gtM_step L k hkl] at hst
        obtain ⟨c1a, c1b⟩ := c1
        have HST := Lib.hid hst
        clear hst hg hb hx hR
        go_wp2_with fail
        go_roundw
        case rel => exact ⟨k + 1, by omega, by go_num, HST.out⟩
        case measure => simp [intOf]; omega
      · have hg : gtC b = b := by unfold gtC; rw [if_neg (by omega)]
        have hke := gtM_keep L k hkl (by rw [← hb]; exact hg)
        rw [hke] at hR
        have HR := Lib.hid hR
        clear hg hke hb hx hR
        by_cases c2 : 97 ≤ x
        · have c3 : 122 < x := by omega
          clear c1
          go_wp2_with fail
          go_roundw
          case rel => exact ⟨k + 1, by omega, by go_num, HR.out⟩
          case measure => simp [intOf]; omega
        · clear c1
          go_wp2_with fail
          go_roundw
          case rel => exact ⟨k + 1, by omega, by go_num, HR.out⟩
          case measure => simp [intOf]; omega
    · have hke : gtM L k = gtP L := by rw [show k = L.length by rw [HL.out]; omega, gtM_all]
      have hst := hR.str Tryz.underlying65 Tryz.underlying5 Tryz.underlying9 c
      rw [hke] at hst
      have hgl : (gtP L).length = s.size := by unfold gtP; rw [List.length_map, HL.out]
      rw [hgl] at hst
      have HB2 := Lib.hid hR.below
      clear hke hR hgl
      go_wp2_with fail
      go_ret2
      exact ⟨rfl, HB2.out⟩
end Go.Proofs.YtlhcejbimlilaaaGreatDoor
