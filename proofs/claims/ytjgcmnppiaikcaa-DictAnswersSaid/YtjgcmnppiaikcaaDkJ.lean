/- How far a test holds in a dictionary of any bytes: the closure that the halving asks. -/
import Derived.Test.YtjgcmnppiaikcaaDkG
import Derived.Test.YtjgcmnppiaikcaaDkI
import Derived.Test.YtjgcmnppiaikcaaQu
set_option linter.unusedVariables false
set_option linter.unusedSimpArgs false
namespace Go.Proofs.Ytjgcmnppiaikcaa
open Go.RowKit Go.Shelf Go.Tk
attribute [local go_sem] Oper.semAt_some
/-- Does the test not hold for block k's first entry, or is it none? -/
def tstB (pz : List Int) (wd : Nat) (eb : List UInt8) (tst : List UInt8 → Bool) (k : Nat) : Bool :=
  if (entP eb (numT pz wd k wd : Nat) true []).2.2 ≠ 0 then true else !tst (entP eb (numT pz wd k wd : Nat) true []).1
theorem num_small (pz : List Int) (wd k : Nat) (h : wd ≤ 27) : numT pz wd k wd ≤ 134217728 := by
  have := numT_lt pz wd k wd
  have h2 : 2 ^ wd ≤ 2 ^ 27 := Nat.pow_le_pow_right (by omega) h
  omega
theorem blocks_calls (w : World) (n : Nat) (hn : n ≤ 4194304) : Calls Try.prog 45 #[.int .i64 (n : Nat)] w fun e w' => e = .returned (.int .i64 (((n + 15) / 16 : Nat) : Int)) ∧ Below w.heap.size w w' := by
  have e1 : ((n : Int) + 15) / 16 = (((n + 15) / 16 : Nat) : Int) := by omega
  go_enter Try.func45, Try.ntmps45
  go_wp2
  go_ret
  exact ⟨by go_num, Below.refl _ _⟩
set_option maxRecDepth 100000 in
set_option maxHeartbeats 2000000 in
theorem ahead1_calls (w0 w : World) (hb : Below w0.heap.size w0 w) (gd n wd : Nat) (pa : Option Addr) (pc : Nat) (pz : List Int) (ea : Option Addr) (ec : Nat) (eb : List UInt8) (h : DictM w0 gd n wd pa pc pz ea ec (nums eb))
    (b1 b2 : Nat) (G : FuncId) (cb : Array Value) (hb1 : Boxed w b1 38 (.pointer (some ⟨gd, 0, none⟩))) (hb2 : Boxed w b2 104 (.func (.func G) #[] cb)) (k : Nat) (hk : k < (n + 15) / 16) (tst : List UInt8 → Bool)
    (hcf : ∀ args W, (callFunc G args).run Try.prog W = .ok (.enter G args) W) (ht : ∀ W (t : ByteArray), t.size ≤ 262144 → Below w0.heap.size w0 W → Calls Try.prog G (#[.string t] ++ cb) W fun e w' => e = .returned (.bool (tst t.data.toList)) ∧ Below W.heap.size W w') :
    Calls Try.prog 74 #[.int .i64 (k : Nat), .pointer (some ⟨b1, 0, none⟩), .pointer (some ⟨b2, 0, none⟩)] w fun e w' => e = .returned (.bool (tstB pz wd eb tst k)) ∧ Below w.heap.size w w' := by
  have l1 := lt_of_block hb1
  have l2 := lt_of_block hb2
  have hns := num_small pz wd k h.wN
  have hpl : ∀ W, Below w.heap.size w W → Calls Try.prog 47 #[.pointer (some ⟨gd, 0, none⟩), .int .i64 (k : Nat)] W fun e w' => e = .returned (.int .i64 (numT pz wd k wd : Nat)) ∧ Below w.heap.size w w' := fun W hW =>
    (place_calls W gd n wd pa pc pz ea ec (nums eb) (h.keep (hb.trans (hW.mono hb.size))) k hk).mono fun _ _ ⟨h1, h2⟩ => ⟨h1, hW.trans (h2.mono hW.size)⟩
  obtain ⟨P, hP⟩ : ∃ P, P = numT pz wd k wd := ⟨_, rfl⟩
  unfold tstB
  rw [← hP] at hpl hns ⊢
  obtain ⟨en, hen⟩ : ∃ en, en = entP eb (P : Nat) true [] := ⟨_, rfl⟩
  have hent : ∀ W, Below w.heap.size w W → Calls Try.prog 48 #[.pointer (some ⟨gd, 0, none⟩), .int .i64 (P : Nat), .bool true, .string ⟨#[]⟩] W fun e w' => e = .returned (.tuple #[.string ⟨en.1.toArray⟩, .int .i64 en.2.1, .int .i64 en.2.2]) ∧ Below w.heap.size w w' := fun W hW => by
    have := entry_calls W gd n wd pa pc pz ea ec eb (h.keep (hb.trans (hW.mono hb.size))) (P : Nat) ⟨by omega, by omega⟩ true ⟨#[]⟩ (by decide)
    rw [show (⟨#[]⟩ : ByteArray).data.toList = [] from rfl, ← hen] at this
    exact this.mono fun _ _ ⟨h1, h2⟩ => ⟨h1, hW.trans (h2.mono hW.size)⟩
  rw [← hen]
  have hokl : en.2.2 = 0 → en.1.length ≤ 262144 := fun he => (ent_ok (s := en.1) (nx := en.2.1) (by rw [← hen, ← he])).1
  obtain ⟨s, nx, er⟩ := en
  simp only at hent hokl ⊢
  obtain ⟨sB, hsB⟩ : ∃ sB : ByteArray, sB = ⟨s.toArray⟩ := ⟨_, rfl⟩
  have hss : sB.data.toList = s := by rw [hsB]
  have hsl : sB.size = s.length := by rw [hsB]; simp [ByteArray.size]
  rw [← hsB] at hent
  have c1 : ∀ W, Below w.heap.size w W → W.cell? ⟨b1, 0, none⟩ = some (.pointer (some ⟨gd, 0, none⟩)) := fun W hW => (hW.cell (p := ⟨b1, 0, none⟩) l1).trans hb1.cell
  have c2 : ∀ W, Below w.heap.size w W → W.cell? ⟨b2, 0, none⟩ = some (.func (.func G) #[] cb) := fun W hW => (hW.cell (p := ⟨b2, 0, none⟩) l2).trans hb2.cell
  have htt : er = 0 → ∀ W, Below w.heap.size w W → Calls Try.prog G (#[.string sB] ++ cb) W fun e w' => e = .returned (.bool (tst s)) ∧ Below w.heap.size w w' := fun he W hW => by
    have := ht W sB (by rw [hsl]; exact hokl he) (hb.trans (hW.mono hb.size))
    rw [hss] at this
    exact this.mono fun _ _ ⟨h1, h2⟩ => ⟨h1, hW.trans (h2.mono hW.size)⟩
  obtain ⟨rb, hrb⟩ : ∃ rb : Bool, rb = (if er ≠ 0 then true else !tst s) := ⟨_, rfl⟩
  rw [← hrb]
  have hr0 : er = 0 → rb = !tst s := fun e => by rw [hrb, if_neg (by simp [e])]
  have hr1 : er ≠ 0 → rb = true := fun e => by rw [hrb, if_pos e]
  have HR0 := Lib.hid hr0
  have HR1 := Lib.hid hr1
  clear hr0 hr1 hrb
  have HPL := Lib.hid hpl
  have HENT := Lib.hid hent
  have HC1 := Lib.hid c1
  have HC2 := Lib.hid c2
  have HTT := Lib.hid htt
  clear hpl hent c1 c2 htt ht hP hen hokl hsB hss hsl h hb hb1 hb2 l1 l2 hns
  go_enter Try.func74, Try.ntmps74
  go_wp2
  refine wp_region_quiet_all (fun W => Below w.heap.size w W) (by kernel_rfl) (by kernel_rfl) (Below.drew (Below.refl _ _)) ?_
  refine wq_val (.pointer (some ⟨gd, 0, none⟩)) rfl (fun W hW => by simp [go_sem, HC1.out W hW]) ?_
  refine wq_val (.pointer (some ⟨gd, 0, none⟩)) rfl (fun W hW => by simp [go_sem, HC1.out W hW]) ?_
  refine wq_val (.int .i64 (k : Nat)) rfl (fun W hW => by simp [go_sem]) ?_
  refine wq_call (.int .i64 (P : Nat)) _ _ rfl (fun W => by simp [go_sem]) (fun W hW => HPL.out W hW) ?_
  refine wq_call (.tuple #[.string sB, .int .i64 nx, .int .i64 er]) _ _ rfl (fun W => by simp [go_sem]) (fun W hW => HENT.out W hW) ?_
  refine wq_val (.tuple #[.string sB, .int .i64 nx, .int .i64 er]) rfl (fun W hW => by simp [go_sem]) ?_
  refine wq_val (.string sB) rfl (fun W hW => by simp [go_sem]) ?_
  refine wq_val (.int .i64 nx) rfl (fun W hW => by simp [go_sem]) ?_
  refine wq_val (.int .i64 er) rfl (fun W hW => by simp [go_sem]) ?_
  refine wq_val (.string sB) rfl (fun W hW => by simp [go_sem]) ?_
  refine wq_val (.int .i64 nx) rfl (fun W hW => by simp [go_sem]) ?_
  refine wq_val (.int .i64 er) rfl (fun W hW => by simp [go_sem]) ?_
  refine wpQuiet_nil ?_
  intro W hW
  have k2 := HC2.out W hW
  have HW := Lib.hid hW
  clear hW
  by_cases he : er = 0
  · subst he
    have hc := HTT.out rfl W HW.out
    have HC := Lib.hid hc
    have hr := HR0.out rfl
    subst hr
    clear hc HR0 HR1 HTT
    go_wp2_with (refine HC.out.mono ?_; rintro e w' ⟨rfl, hb'⟩; (have HB2 := Lib.hid hb'); clear hb')
    go_ret
    exact ⟨rfl, HB2.out⟩
  · have e1 : (er != 0) = true := by simp [he]
    have hr := HR1.out he
    subst hr
    clear he
    go_wp2
    go_ret
    exact ⟨rfl, HW.out⟩
end Go.Proofs.Ytjgcmnppiaikcaa
