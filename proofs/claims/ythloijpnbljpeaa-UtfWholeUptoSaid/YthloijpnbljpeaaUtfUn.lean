/- Unescape: plain; the program's. -/
import Derived.Test.YthloijpnbljpeaaUtfHs
import Derived.Test.YthloijpnbljpeaaUtfE
import Derived.Test.YthloijpnbljpeaaEv
set_option linter.unusedVariables false
set_option linter.unusedSimpArgs false
namespace Go.Tk
open Go Go.RowKit
def consU (b : List UInt8) (r : List UInt8 × Int × Int) : List UInt8 × Int × Int := if r.2.2 = 0 then (b ++ r.1, r.2) else ([], r.2)
theorem consU_cat (a b : List UInt8) (r : List UInt8 × Int × Int) : consU a (consU b r) = consU (a ++ b) r := by
  unfold consU
  by_cases h : r.2.2 = 0
  · simp [h]
  · simp [h]
/-- What a text says with escapes: the text, or the place and the number of its first fault. -/
def unN : Nat → List UInt8 → Int → Int → List UInt8 × Int × Int
  | 0, _, _, _ => ([], 0, 0)
  | f + 1, l, x, way =>
    if l = [] then ([], 0, 0)
    else if (dec l).2 = 0 then ([], x, 40)
    else if (dec l).1 = 92 then (if (escI l way).2 = 0 then ([], x, 41) else consU (encB (escI l way).1) (unN f (l.drop (escI l way).2) (x + (escI l way).2) way))
    else consU (encB (dec l).1) (unN f (l.drop (dec l).2) (x + (dec l).2) way)
theorem unN_fuel : ∀ (f g : Nat) (l : List UInt8) (x way : Int), l.length ≤ f → l.length ≤ g → unN f l x way = unN g l x way
  | 0, g, l, x, way, h, _ => by
    obtain rfl : l = [] := List.eq_nil_of_length_eq_zero (by omega)
    cases g <;> simp [unN]
  | f + 1, 0, l, x, way, _, h => by
    obtain rfl : l = [] := List.eq_nil_of_length_eq_zero (by omega)
    simp [unN]
  | f + 1, g + 1, l, x, way, h1, h2 => by
    simp only [unN]
    split
    · rfl
    split
    · rfl
    split
    · split
      · rfl
      · rw [unN_fuel f g _ _ _ (by simp; omega) (by simp; omega)]
    · rw [unN_fuel f g _ _ _ (by simp; omega) (by simp; omega)]
def unF (l : List UInt8) (x way : Int) : List UInt8 × Int × Int := unN l.length l x way
theorem unF_nil (x way : Int) : unF [] x way = ([], 0, 0) := rfl
theorem unF_step {l : List UInt8} (x way : Int) (h : l ≠ []) : unF l x way = if (dec l).2 = 0 then ([], x, 40)
    else if (dec l).1 = 92 then (if (escI l way).2 = 0 then ([], x, 41) else consU (encB (escI l way).1) (unF (l.drop (escI l way).2) (x + (escI l way).2) way))
    else consU (encB (dec l).1) (unF (l.drop (dec l).2) (x + (dec l).2) way) := by
  have hp := List.length_pos_iff.2 h
  obtain ⟨n, hn⟩ : ∃ n, l.length = n + 1 := ⟨l.length - 1, by omega⟩
  unfold unF
  rw [hn]
  simp only [unN]
  rw [if_neg h]
  split
  · rfl
  split
  · split
    · rfl
    · rw [unN_fuel n (l.drop (escI l way).2).length _ _ _ (by simp; omega) (Nat.le_refl _)]
  · rw [unN_fuel n (l.drop (dec l).2).length _ _ _ (by simp; omega) (Nat.le_refl _)]
theorem unF_start (l : List UInt8) (x way : Int) : consU [] (unF l x way) = unF l x way := by
  by_cases h : l = []
  · subst h; rfl
  · rw [unF_step x way h]
    split
    · rfl
    split
    · split
      · rfl
      · rw [consU_cat]; rfl
    · rw [consU_cat]; rfl
theorem numI_scalar {l : List UInt8} {n : Nat} (h : 0 ≤ numI l n) : scalarB (numI l n) = true := by
  unfold numI at h ⊢
  split
  · rename_i e; rw [e] at h; exact absurd h (by decide)
  · rename_i r e
    rw [e] at h
    simp only at h ⊢
    split
    · assumption
    · rename_i hn; rw [if_neg hn] at h; exact absurd h (by decide)
theorem escL_scalar {c : Int} (h : 0 ≤ escL c) : scalarB (escL c) = true := by
  revert h
  unfold escL
  repeat' split
  all_goals decide
theorem escI_ok {l : List UInt8} {way : Int} (h : (escI l way).2 ≠ 0) : scalarB (escI l way).1 = true ∧ (escI l way).2 ≤ 10 ∧ 2 ≤ (escI l way).2 := by
  match l with
  | [] => exact absurd rfl h
  | [_] => exact absurd rfl h
  | _ :: c :: t =>
    simp only [escI] at h ⊢
    repeat' split
    all_goals simp_all
    all_goals first | exact numI_scalar (by omega) | exact escL_scalar (by omega) | skip
theorem dec_bs {b : UInt8} {t : List UInt8} (h : b.toNat = 92) : dec (b :: t) = (92, 1) := by
  have : dec (b :: t) = ((92 : Int), (encZ 92).length) := dec_enc _ 92 (by decide) ⟨nums t, by simp [nums, encZ, h]⟩
  rw [this]; rfl
theorem dec_92 {l : List UInt8} (h1 : (dec l).1 = 92) (h2 : (dec l).2 ≠ 0) : ∃ b t, l = b :: t ∧ b.toNat = 92 := by
  obtain ⟨n, hn⟩ : ∃ n, n = (dec l).2 := ⟨_, rfl⟩
  have hd : dec l = (92, n) := by rw [← h1, hn]
  rw [← hn] at h2
  obtain ⟨_, he, _⟩ := dec_yes hd h2
  cases l with
  | nil => exact absurd rfl (by rw [hn] at h2; exact h2)
  | cons b t =>
    refine ⟨b, t, rfl, ?_⟩
    obtain ⟨m, rfl⟩ : ∃ m, n = m + 1 := ⟨n - 1, by omega⟩
    have : encZ 92 = [92] := rfl
    rw [this] at he
    simp [nums] at he
    omega
theorem _root_.Go.Lib.IsBuilderF.lt' {T e : TypeId} {B b : Nat} {bs : List Value} {w : World} (h : Lib.IsBuilderF T e B b bs w) : b < w.heap.size := by
  rcases h with ⟨_, v, h, _⟩ | ⟨_, v, h, _⟩ <;> exact lt_of_block h
theorem byteCells_one' (l : List UInt8) : ∀ v ∈ Lib.byteCells l, v.oneCell' = true := by
  intro v hv
  simp only [Lib.byteCells, List.mem_map] at hv
  obtain ⟨b, _, rfl⟩ := hv
  rfl
theorem take_enc {l : List UInt8} {r : Int} {n : Nat} (h : dec l = (r, n)) (hn : n ≠ 0) : l.take n = encB r := by
  obtain ⟨hr, he, _⟩ := dec_yes h hn
  exact nums_inj (by rw [nums_encB' hr, he])
end Go.Tk
namespace Go.Proofs.Ythloijpnbljpeaa
open Go.RowKit Go.Tk
theorem fresh_cells {r : Int} {w w' : World} {g : Nat} (h : scalarB r = true) (hf : Fresh .u8 5 w w' g (encZ r)) : ∀ j u, (Lib.byteCells (encB r))[j]? = some u → w'.cell? ⟨g, j, none⟩ = some u := by
  intro j u hj
  have e := nums_encB' h
  have el : (encZ r).length = (encB r).length := by rw [← e, nums_len]
  have hjl : j < (encB r).length := by
    have := (List.getElem?_eq_some_iff.1 hj).1
    simpa [Lib.byteCells_length] using this
  rw [hf.row.cell j (by omega), ← e, nums_getD (encB r) j hjl]
  simp [Lib.byteCells, List.getElem?_eq_getElem hjl] at hj
  rw [← hj]
set_option maxRecDepth 100000 in
set_option maxHeartbeats 4000000 in
theorem uunescape_calls (s : ByteArray) (way : Int) (w : World) (hs : s.size ≤ 8000000) :
    Calls Try.prog 25 #[.string s, .int .i64 way] w fun e w' => ∃ v, e = .returned (.tuple #[.string ⟨(unF s.data.toList 0 way).1.toArray⟩, v]) ∧ EV w' v (unF s.data.toList 0 way).2.1 (unF s.data.toList 0 way).2.2 ∧ Below w.heap.size w w' := by
  obtain ⟨l, hl⟩ : ∃ l, l = s.data.toList := ⟨_, rfl⟩
  have hll : l.length = s.size := by rw [hl, Lib.size_eq]
  have hge : ∀ i (h : i < s.size) (h' : i < l.length), s[i] = l[i] := fun i h h' => by subst hl; rfl
  have hnx := fun (k : Nat) (w : World) => next_calls s (k : Int) w (by omega)
  simp only [nextI_at] at hnx
  have hes := fun (k : Nat) (hk : k ≤ s.size) (w : World) => uesc_calls (s.extract k s.size) way w (by rw [Lib.size_eq, extract_ds']; simp; omega)
  simp only [extract_ds'] at hes
  have hxt : ∀ k n : Nat, (s.extract k (k + n)).data.toList = (l.drop k).take n := fun k n => by rw [Lib.extract_data, hl]; simp
  rw [← hl] at hnx hes ⊢
  have HLL := Lib.hid hll
  have HGE := Lib.hid hge
  have HNX := Lib.hid hnx
  have HES := Lib.hid hes
  have HXT := Lib.hid hxt
  clear hl hll hge hnx hes hxt
  go_enter Try.func25, Try.ntmps25
  go_wp2
  go_loopw [7, 8, 9, 10, 11] (fun iv _ _ _ _ wr => ∃ (k : Nat) (acc : List UInt8), iv = .int .i64 (k : Nat) ∧ Bldr w.heap.size w.heap.size (Lib.byteCells acc) wr ∧ Below w.heap.size w wr ∧ consU acc (unF (l.drop k) k way) = unF l 0 way ∧ k ≤ s.size + 10 ∧ acc.length ≤ 4 * k) (fun iv _ _ _ _ _ => s.size - (intOf iv).toNat)
  case atStart =>
    exact ⟨0, [], rfl, Lib.IsBuilderF.of (Lib.fresh_isBuilder _ _ w), (Below.refl _ w).alloc (Nat.le_refl _) _, by rw [List.drop_zero]; exact unF_start l 0 way, by omega, by simp⟩
  case round =>
    obtain ⟨k, acc, rfl, hI, hbw, hacc, hks, hal⟩ := hrel
    by_cases hp : k < s.size
    · have hkl : k < l.length := by rw [HLL.out]; exact hp
      have hne : l.drop k ≠ [] := by
        intro e
        have := congrArg List.length e
        rw [List.length_drop] at this; simp at this; omega
      rw [unF_step k way hne] at hacc
      have hdr := List.drop_eq_getElem_cons hkl
      obtain ⟨y, hy⟩ : ∃ y : Int, y = ((l[k]).toNat : Int) := ⟨_, rfl⟩
      have hyx : ((s[k]).toNat : Int) = y := by rw [HGE.out k hp hkl, hy]
      have HI := Lib.hid hI
      have HBW := Lib.hid hbw
      clear hI hbw
      by_cases y92 : y = 92
      · have hd : dec (l.drop k) = (92, 1) := by rw [hdr]; exact dec_bs (by omega)
        rw [hd] at hacc
        simp only [Nat.one_ne_zero, if_false, if_true] at hacc
        have hcall := HES.out k (by omega)
        obtain ⟨R, n, he⟩ : ∃ R n, escI (l.drop k) way = (R, n) := ⟨_, _, rfl⟩
        rw [he] at hacc hcall
        simp only at hacc hcall
        have HCALL := Lib.hid hcall
        clear hcall hy hdr hd hne
        subst y92
        by_cases n0 : n = 0
        · have HA := Lib.hid (by rw [if_pos n0] at hacc; exact hacc : consU acc ([], (k : Int), 41) = unF l 0 way)
          have b0 : ((n : Int) == 0) = true := by simp [n0]
          clear hacc he
          go_wp2_with (first
            | (go_at_call 31; refine (HCALL.out _).mono ?_; rintro e w2 ⟨rfl, rfl⟩)
            | (go_at_call 27; refine (wrong_calls _ _ _).mono ?_; rintro e w3 ⟨rfl, rfl⟩))
          go_ret2
          have e1 : unF l 0 way = ([], (k : Int), 41) := by rw [← HA.out]; rfl
          rw [e1]
          exact ⟨_, rfl, .inr ⟨_, by simp, rfl, heap_alloc_new _ _⟩, HBW.out.alloc HBW.out.size _⟩
        · rw [if_neg n0] at hacc
          have hok := escI_ok (l := l.drop k) (way := way) (by rw [he]; exact n0)
          rw [he] at hok
          simp only at hok
          obtain ⟨hR, hn10, hn2⟩ := hok
          have hR0 := (scalarB_iff R).1 hR
          have hub := fun w => ubytes_calls R w hR0.1 hR0.2.1
          have hlen : (encZ R).length = (encB R).length := by rw [← nums_encB' hR, nums_len]
          have hb4 := encB_len (r := R)
          rw [consU_cat, List.drop_drop] at hacc
          have HA := Lib.hid hacc
          have HR := Lib.hid hR
          have HUB := Lib.hid hub
          have b0 : ((n : Int) == 0) = false := by simp [n0]
          clear hacc he hR hR0 hub
          go_wp2_with (first
            | (go_at_call 31; refine (HCALL.out _).mono ?_; rintro e w2 ⟨rfl, rfl⟩)
            | (go_at_call 19; refine (HUB.out _).mono ?_; rintro e w3 ⟨rfl, hf⟩; (have HF := Lib.hid hf); (have HI3 := Lib.hid (bldr_below HI.out hf.below)); (have HBW3 := Lib.hid (HBW.out.trans (hf.below.mono HBW.out.size))); clear hf)
            | (go_at_call 32; (refine (write_calls w.heap.size w.heap.size _ _ _ _ (Lib.byteCells (encB R)) _ HI3.out (by first | exact Lib.byteCells_length _ | (rw [Lib.byteCells_length]; omega)) (by have := HI.out.lt'; omega) (fresh_cells HR.out HF.out) (byteCells_one' _) (by rw [Lib.byteCells_length]; omega) HBW3.out.size).mono ?_; rintro e w4 ⟨rfl, h4, b4, _⟩; (have H4 := Lib.hid h4); (have HBW4 := Lib.hid (HBW3.out.trans b4)); clear h4 b4)))
          go_roundw
          case rel => exact ⟨k + n, acc ++ encB R, by go_num, by rw [Lib.byteCells_append]; exact H4.out, HBW4.out, by have := HA.out; push_cast; exact this, by omega, by simp; omega⟩
          case measure => simp [intOf]; omega
      · have h92 : ¬ ((dec (l.drop k)).1 = 92 ∧ (dec (l.drop k)).2 ≠ 0) := fun h => by
          obtain ⟨b, t, e1, e2⟩ := dec_92 h.1 h.2
          rw [hdr] at e1
          have := (List.cons.inj e1).1
          rw [this] at hy
          omega
        obtain ⟨R, n, hd⟩ : ∃ R n, dec (l.drop k) = (R, n) := ⟨_, _, rfl⟩
        have hcall := HNX.out k
        rw [hd] at hacc hcall h92
        simp only at hacc hcall h92
        have HCALL := Lib.hid hcall
        have e92 : (y == 92) = false := beq_eq_false_iff_ne.2 y92
        clear hcall hy hdr hne y92
        by_cases n0 : n = 0
        · have HA := Lib.hid (by rw [if_pos n0] at hacc; exact hacc : consU acc ([], (k : Int), 40) = unF l 0 way)
          have b0 : ((n : Int) == 0) = true := by simp [n0]
          clear hacc hd h92
          go_wp2_with (first
            | (go_at_call 11; refine (HCALL.out _).mono ?_; rintro e w2 ⟨rfl, rfl⟩)
            | (go_at_call 27; refine (wrong_calls _ _ _).mono ?_; rintro e w3 ⟨rfl, rfl⟩))
          go_ret2
          have e1 : unF l 0 way = ([], (k : Int), 40) := by rw [← HA.out]; rfl
          rw [e1]
          exact ⟨_, rfl, .inr ⟨_, by simp, rfl, heap_alloc_new _ _⟩, HBW.out.alloc HBW.out.size _⟩
        · rw [if_neg n0, if_neg (fun h => h92 ⟨h, n0⟩)] at hacc
          have htk := take_enc hd n0
          have hle := dec_le (l.drop k)
          rw [hd, List.length_drop, HLL.out] at hle
          simp only at hle
          have hb4 := encB_len (r := R)
          have hsx : (s.extract k (k + n)).data.toList = encB R := (HXT.out k n).trans htk
          obtain ⟨q, hq⟩ : ∃ q, q = s.extract k (k + n) := ⟨_, rfl⟩
          rw [← hq] at hsx
          have hqs : q.size = (encB R).length := by rw [Lib.size_eq, hsx]
          rw [consU_cat, List.drop_drop] at hacc
          have HA := Lib.hid hacc
          have HQ := Lib.hid hq
          have HSX := Lib.hid hsx
          have b0 : ((n : Int) == 0) = false := by simp [n0]
          clear hacc hd h92 htk hsx hq
          go_wp2_with (first
            | (go_at_call 11; refine (HCALL.out _).mono ?_; rintro e w2 ⟨rfl, rfl⟩)
            | (go_at_call 28; (refine (writeString_calls w.heap.size w.heap.size _ _ _ HI.out (by rw [Lib.byteCells_length, ← HQ.out]; omega) HBW.out.size).mono ?_; rintro e w4 ⟨rfl, h4, b4, _⟩; (have H4 := Lib.hid h4); (have HBW4 := Lib.hid (HBW.out.trans b4)); clear h4 b4)))
          go_roundw
          case rel =>
            refine ⟨k + n, acc ++ encB R, by go_num, ?_, HBW4.out, by have := HA.out; push_cast; exact this, by omega, by simp; omega⟩
            have := H4.out
            rw [← HQ.out] at this
            rw [Lib.byteCells_append, ← HSX.out]; exact this
          case measure => simp [intOf]; omega
    · have hz : l.drop k = [] := List.drop_of_length_le (by rw [HLL.out]; omega)
      rw [hz, unF_nil] at hacc
      have e1 : unF l 0 way = (acc, 0, 0) := by rw [← hacc]; simp [consU]
      have HA := Lib.hid e1
      have HI := Lib.hid hI
      have HBW := Lib.hid hbw
      clear hacc hI hbw hz e1
      go_wp2_with (go_at_call 30; refine (Try.Builder_String_any_k w.heap.size w.heap.size acc _ HI.out HBW.out.size).mono ?_; rintro e w3 ⟨rfl, _, b3, _⟩)
      go_ret2
      rw [HA.out]
      exact ⟨_, rfl, EV.nil _, HBW.out.trans b3⟩
end Go.Proofs.Ythloijpnbljpeaa
