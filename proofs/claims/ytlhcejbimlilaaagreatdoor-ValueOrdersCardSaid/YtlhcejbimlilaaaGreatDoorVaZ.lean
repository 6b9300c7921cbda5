/- VaV VaZ, laid as one. -/
import Derived.Test.YtlhcejbimlilaaaGreatDoorVaJ
import Derived.Test.YtlhcejbimlilaaaGreatDoorVaX
import Derived.Test.YtlhcejbimlilaaaGreatDoorVaY
set_option linter.unusedVariables false
set_option linter.unusedSimpArgs false
/- The program's readDay, readClock, readDateTime (written by gen_vav.py). -/
namespace Go.Tk
open Go Go.RowKit
/-- What a reader of moments answers: a moment (the one, if the text is one), and whether it is one. -/
def MtPost (o : Option Mt) (w : World) (e : Ending) (w' : World) : Prop := ∃ m : Mt, e = .returned (.tuple #[m.val, .bool o.isSome]) ∧ mtO o m ∧ Below w.heap.size w w'
theorem mtO_none (m : Mt) : mtO none m := fun _ h => by cases h
theorem mtO_in (sec : Int) (p z : List UInt8) : mtO (inP sec p z) (inV sec p z) := fun m' h => by
  rw [inP_eq] at h
  split at h
  · exact Option.some.inj h
  · cases h
theorem inP_some (sec : Int) (p z : List UInt8) : (inP sec p z).isSome = (rdZ z).isSome := by
  rw [inP_eq]; cases (rdZ z).isSome <;> rfl
end Go.Tk
namespace Go.Proofs.YtlhcejbimlilaaaGreatDoor
open Go.RowKit Go.Tk
set_option maxHeartbeats 2000000 in
theorem readDay_calls (s : ByteArray) (w : World) (hs : s.size ≤ 4000000000) :
    Calls Tryz.prog 37 #[.string s] w (MtPost (rdDay s.data.toList) w) := by
  have hrd := fun w => readDate_calls s w hs
  have hbd : ∀ n r, rdD s.data.toList = some (n, r) → _ := fun n r h => rdD_bd h
  have hdd : rdDay s.data.toList = match rdD s.data.toList with | none => none | some (n, z) => inP (n * 86400) [] z := rfl
  have hsz : s.data.toList.length = s.size := (Lib.size_eq s).symm
  rw [hdd]
  clear hdd
  cases ho : rdD s.data.toList with
  | none =>
    rw [ho] at hrd
    have hrd : ∀ w, Calls Tryz.prog 84 #[.string s] w fun e w' => e = .returned (.tuple #[.int .i64 0, .string ⟨#[]⟩, .bool false]) ∧ Below w.heap.size w w' := hrd
    have HRD := Lib.hid hrd
    clear hrd ho hbd hsz
    dsimp only
    go_enter Tryz.func37, Tryz.ntmps37
    go_wp2_with (go_at_call 84; (with_reducible refine (HRD.out _).mono ?_); rintro e w3 ⟨rfl, hb3⟩; (have R3 := (Res1.start 76 #[.int .i64 0, .string ⟨#[]⟩, .bool false, .int .i64 0, .string ⟨#[]⟩] w).next hb3); (have c30 : w3.cell? ⟨w.heap.size, 0, none⟩ = some (.int .i64 0) := R3.cell 0); (have c31 : w3.cell? ⟨w.heap.size, 1, none⟩ = some (.string ⟨#[]⟩) := R3.cell 1); (have c32 : w3.cell? ⟨w.heap.size, 2, none⟩ = some (.bool false) := R3.cell 2); (have c33 : w3.cell? ⟨w.heap.size, 3, none⟩ = some (.int .i64 0) := R3.cell 3); (have c34 : w3.cell? ⟨w.heap.size, 4, none⟩ = some (.string ⟨#[]⟩) := R3.cell 4); (have f3 : ∀ i, w3.frozen? ⟨w.heap.size, i, none⟩ = false := R3.frozen))
    refine bodyPost_ret (v := .tuple #[.agg #[.int .i64 0, .string ⟨#[]⟩, .bool false, .int .i64 0, .string ⟨#[]⟩], .bool false]) (by simp [results, Tryz.results37, go_sem, c30, c31, c32, c33, c34]) rfl ⟨mtZ, rfl, mtO_none _, ?_⟩
    repeat (first | exact R3.below | with_reducible refine below_drewN ?_ _ | (with_reducible refine Below.setCell ?_ (by simp) _))
  | some q =>
    obtain ⟨n, r⟩ := q
    have hb := hbd n r ho
    obtain ⟨⟨hb1, hb2⟩, hbl⟩ := hb
    obtain ⟨Z, hZ⟩ : ∃ Z : ByteArray, Z = ⟨r.toArray⟩ := ⟨_, rfl⟩
    have hZd : Z.data.toList = r := by rw [hZ]
    have hZs : Z.size ≤ 4000000000 := by rw [Lib.size_eq, hZd]; omega
    rw [ho] at hrd
    have hrd : ∀ w, Calls Tryz.prog 84 #[.string s] w fun e w' => e = .returned (.tuple #[.int .i64 n, .string Z, .bool true]) ∧ Below w.heap.size w w' := fun w => by rw [hZ]; exact hrd w
    have hin := fun w => in_calls (n * 86400) ⟨#[]⟩ Z w hZs
    rw [hZd] at hin
    obtain ⟨m, hm⟩ : ∃ m, m = inV (n * 86400) [] r := ⟨_, rfl⟩
    obtain ⟨ok, hok⟩ : ∃ b, b = (rdZ r).isSome := ⟨_, rfl⟩
    have hin : ∀ w, Calls Tryz.prog 87 #[.agg #[.int .i64 (n * 86400), .string ⟨#[]⟩, .bool false, .int .i64 0, .string ⟨#[]⟩], .string Z] w fun e w' => e = .returned (.tuple #[m.val, .bool ok]) ∧ Below w.heap.size w w' := fun w => by rw [hm, hok]; exact hin w
    have hmo := mtO_in (n * 86400) [] r
    have his := inP_some (n * 86400) [] r
    rw [← hm] at hmo
    rw [← hok] at his
    dsimp only
    obtain ⟨O, hO⟩ : ∃ O, O = inP (n * 86400) [] r := ⟨_, rfl⟩
    rw [← hO] at hmo his ⊢
    obtain ⟨ms, mp, mz, mn, mq⟩ := m
    have HMO := Lib.hid hmo
    have HIS := Lib.hid his
    unfold Mt.val at hin
    dsimp only at hin
    have HIN := Lib.hid hin
    have HRD := Lib.hid hrd
    clear hrd ho hbd hsz hin hm hok hmo his hZ hZd hbl hO
    go_enter Tryz.func37, Tryz.ntmps37
    go_wp2_with (first | (go_at_call 84; (with_reducible refine (HRD.out _).mono ?_); rintro e w3 ⟨rfl, hb3⟩; (have R3 := (Res1.start 76 #[.int .i64 0, .string ⟨#[]⟩, .bool false, .int .i64 0, .string ⟨#[]⟩] w).next hb3); (have c30 : w3.cell? ⟨w.heap.size, 0, none⟩ = some (.int .i64 0) := R3.cell 0); (have c31 : w3.cell? ⟨w.heap.size, 1, none⟩ = some (.string ⟨#[]⟩) := R3.cell 1); (have c32 : w3.cell? ⟨w.heap.size, 2, none⟩ = some (.bool false) := R3.cell 2); (have c33 : w3.cell? ⟨w.heap.size, 3, none⟩ = some (.int .i64 0) := R3.cell 3); (have c34 : w3.cell? ⟨w.heap.size, 4, none⟩ = some (.string ⟨#[]⟩) := R3.cell 4); (have f3 : ∀ i, w3.frozen? ⟨w.heap.size, i, none⟩ = false := R3.frozen)) | (go_at_call 87; (with_reducible refine (HIN.out _).mono ?_); rintro e w4 ⟨rfl, hb4⟩; (have R4 := (R3).next hb4); (have c40 : w4.cell? ⟨w.heap.size, 0, none⟩ = some (.int .i64 0) := R4.cell 0); (have c41 : w4.cell? ⟨w.heap.size, 1, none⟩ = some (.string ⟨#[]⟩) := R4.cell 1); (have c42 : w4.cell? ⟨w.heap.size, 2, none⟩ = some (.bool false) := R4.cell 2); (have c43 : w4.cell? ⟨w.heap.size, 3, none⟩ = some (.int .i64 0) := R4.cell 3); (have c44 : w4.cell? ⟨w.heap.size, 4, none⟩ = some (.string ⟨#[]⟩) := R4.cell 4); (have f4 : ∀ i, w4.frozen? ⟨w.heap.size, i, none⟩ = false := R4.frozen)))
    refine bodyPost_ret (v := .tuple #[.agg #[.int .i64 ms, .string ⟨mp.toArray⟩, .bool mz, .int .i64 mn, .string ⟨mq.toArray⟩], .bool ok]) (by simp [results, Tryz.results37, go_sem, c40, c41, c42, c43, c44]) rfl ⟨⟨ms, mp, mz, mn, mq⟩, by rw [HIS.out]; rfl, HMO.out, ?_⟩
    repeat (first | exact R4.below | with_reducible refine below_drewN ?_ _ | (with_reducible refine Below.setCell ?_ (by simp) _))
set_option maxHeartbeats 2000000 in
theorem readClock_calls (s : ByteArray) (w : World) (hs : s.size ≤ 4000000000) :
    Calls Tryz.prog 38 #[.string s] w (MtPost (rdClk s.data.toList) w) := by
  have hrd := fun w => readTime_calls s w hs
  have hdd : rdClk s.data.toList = match rdT s.data.toList with | none => none | some (c, p, z) => inP (c % 86400) p z := rfl
  have hsz : s.data.toList.length = s.size := (Lib.size_eq s).symm
  rw [hdd]
  clear hdd
  cases ho : rdT s.data.toList with
  | none =>
    rw [ho] at hrd
    have hrd : ∀ w, Calls Tryz.prog 86 #[.string s] w fun e w' => e = .returned (.tuple #[.int .i64 0, .string ⟨#[]⟩, .string ⟨#[]⟩, .bool false]) ∧ ∃ n, w' = w.drewN n := hrd
    have HRD := Lib.hid hrd
    clear hrd ho hsz
    dsimp only
    go_enter Tryz.func38, Tryz.ntmps38
    go_wp2_with (go_at_call 86; (with_reducible refine (HRD.out _).mono ?_); rintro e w3 ⟨rfl, n, rfl⟩)
    refine bodyPost_ret (v := .tuple #[.agg #[.int .i64 0, .string ⟨#[]⟩, .bool false, .int .i64 0, .string ⟨#[]⟩], .bool false]) (by simp [results, Tryz.results38, go_sem]) rfl ⟨mtZ, rfl, mtO_none _, ?_⟩
    repeat (first | with_reducible exact Below.refl _ _ | with_reducible refine below_drewN ?_ _ | (with_reducible refine Below.setCell ?_ (by simp) _) | (with_reducible refine Below.alloc ?_ (by simp) _))
  | some q =>
    obtain ⟨c, p, z⟩ := q
    obtain ⟨⟨hb1, hb2⟩, hbp, hbl⟩ := rdT_bd ho
    obtain ⟨P, hP⟩ : ∃ P : ByteArray, P = ⟨p.toArray⟩ := ⟨_, rfl⟩
    obtain ⟨Z, hZ⟩ : ∃ Z : ByteArray, Z = ⟨z.toArray⟩ := ⟨_, rfl⟩
    have hPd : P.data.toList = p := by rw [hP]
    have hZd : Z.data.toList = z := by rw [hZ]
    have hZs : Z.size ≤ 4000000000 := by rw [Lib.size_eq, hZd]; omega
    rw [ho] at hrd
    have hrd : ∀ w, Calls Tryz.prog 86 #[.string s] w fun e w' => e = .returned (.tuple #[.int .i64 c, .string P, .string Z, .bool true]) ∧ ∃ n, w' = w.drewN n := fun w => by rw [hZ, hP]; exact hrd w
    have hin := fun w => in_calls (c % 86400) P Z w hZs
    rw [hZd, hPd] at hin
    obtain ⟨m, hm⟩ : ∃ m, m = inV (c % 86400) p z := ⟨_, rfl⟩
    obtain ⟨ok, hok⟩ : ∃ b, b = (rdZ z).isSome := ⟨_, rfl⟩
    dsimp only
    have hin : ∀ w, Calls Tryz.prog 87 #[.agg #[.int .i64 (c % 86400), .string P, .bool false, .int .i64 0, .string ⟨#[]⟩], .string Z] w fun e w' => e = .returned (.tuple #[m.val, .bool ok]) ∧ Below w.heap.size w w' := fun w => by rw [hm, hok]; exact hin w
    have hmo := mtO_in (c % 86400) p z
    have his := inP_some (c % 86400) p z
    rw [← hm] at hmo
    rw [← hok] at his
    obtain ⟨O, hO⟩ : ∃ O, O = inP (c % 86400) p z := ⟨_, rfl⟩
    rw [← hO] at hmo his ⊢
    obtain ⟨ms, mp, mz, mn, mq⟩ := m
    have HMO := Lib.hid hmo
    have HIS := Lib.hid his
    unfold Mt.val at hin
    dsimp only at hin
    have HIN := Lib.hid hin
    have HRD := Lib.hid hrd
    clear hrd ho hsz hin hm hok hmo his hZ hZd hP hPd hbl hbp hO
    go_enter Tryz.func38, Tryz.ntmps38
    go_wp2_with (first | (go_at_call 86; (with_reducible refine (HRD.out _).mono ?_); rintro e w3 ⟨rfl, n, rfl⟩) | (go_at_call 87; (with_reducible refine (HIN.out _).mono ?_); rintro e w4 ⟨rfl, hb4⟩; (have R4 := ((Res1.start 76 #[.int .i64 0, .string ⟨#[]⟩, .bool false, .int .i64 0, .string ⟨#[]⟩] w).drewN _).next hb4); (have c40 : w4.cell? ⟨w.heap.size, 0, none⟩ = some (.int .i64 0) := R4.cell 0); (have c41 : w4.cell? ⟨w.heap.size, 1, none⟩ = some (.string ⟨#[]⟩) := R4.cell 1); (have c42 : w4.cell? ⟨w.heap.size, 2, none⟩ = some (.bool false) := R4.cell 2); (have c43 : w4.cell? ⟨w.heap.size, 3, none⟩ = some (.int .i64 0) := R4.cell 3); (have c44 : w4.cell? ⟨w.heap.size, 4, none⟩ = some (.string ⟨#[]⟩) := R4.cell 4); (have f4 : ∀ i, w4.frozen? ⟨w.heap.size, i, none⟩ = false := R4.frozen)))
    refine bodyPost_ret (v := .tuple #[.agg #[.int .i64 ms, .string ⟨mp.toArray⟩, .bool mz, .int .i64 mn, .string ⟨mq.toArray⟩], .bool ok]) (by simp [results, Tryz.results38, go_sem, c40, c41, c42, c43, c44]) rfl ⟨⟨ms, mp, mz, mn, mq⟩, by rw [HIS.out]; rfl, HMO.out, ?_⟩
    repeat (first | exact R4.below | with_reducible refine below_drewN ?_ _ | (with_reducible refine Below.setCell ?_ (by simp) _))
set_option maxHeartbeats 2000000 in
theorem readDateTime_calls (s : ByteArray) (w : World) (hs : s.size ≤ 4000000000) :
    Calls Tryz.prog 36 #[.string s] w (MtPost (rdDT s.data.toList) w) := by
  have hrd := fun w => readDate_calls s w hs
  have hdd : rdDT s.data.toList = match rdD s.data.toList with
    | none => none
    | some (n, r) => if Lib.hasPrefix r [84] = true then
        match rdT (r.drop 1) with
        | none => none
        | some (c, p, z) => inP (n * 86400 + c) p z
      else none := rfl
  have hsz : s.data.toList.length = s.size := (Lib.size_eq s).symm
  rw [hdd]
  clear hdd
  cases ho : rdD s.data.toList with
  | none =>
    rw [ho] at hrd
    have hrd : ∀ w, Calls Tryz.prog 84 #[.string s] w fun e w' => e = .returned (.tuple #[.int .i64 0, .string ⟨#[]⟩, .bool false]) ∧ Below w.heap.size w w' := hrd
    have hcp : ∀ w, Calls Tryz.prog 85 #[.string ⟨#[]⟩, .string ⟨#[84]⟩] w fun e w' => e = .returned (.tuple #[.string ⟨#[]⟩, .bool false]) ∧ w = w' := fun w => cutPre_calls ⟨#[]⟩ ⟨#[84]⟩ w
    have hrt : ∀ w, Calls Tryz.prog 86 #[.string ⟨#[]⟩] w fun e w' => e = .returned (.tuple #[.int .i64 0, .string ⟨#[]⟩, .string ⟨#[]⟩, .bool false]) ∧ ∃ n, w' = w.drewN n := fun w => readTime_calls ⟨#[]⟩ w (by decide)
    have HRD := Lib.hid hrd
    have HCP := Lib.hid hcp
    have HRT := Lib.hid hrt
    clear hrd hcp hrt ho hsz
    dsimp only
    go_enter Tryz.func36, Tryz.ntmps36
    go_wp2_with (first | (go_at_call 84; (with_reducible refine (HRD.out _).mono ?_); rintro e w3 ⟨rfl, hb3⟩; (have R3 := (Res1.start 76 #[.int .i64 0, .string ⟨#[]⟩, .bool false, .int .i64 0, .string ⟨#[]⟩] w).next hb3); (have c30 : w3.cell? ⟨w.heap.size, 0, none⟩ = some (.int .i64 0) := R3.cell 0); (have c31 : w3.cell? ⟨w.heap.size, 1, none⟩ = some (.string ⟨#[]⟩) := R3.cell 1); (have c32 : w3.cell? ⟨w.heap.size, 2, none⟩ = some (.bool false) := R3.cell 2); (have c33 : w3.cell? ⟨w.heap.size, 3, none⟩ = some (.int .i64 0) := R3.cell 3); (have c34 : w3.cell? ⟨w.heap.size, 4, none⟩ = some (.string ⟨#[]⟩) := R3.cell 4); (have f3 : ∀ i, w3.frozen? ⟨w.heap.size, i, none⟩ = false := R3.frozen)) | (go_at_call 85; (with_reducible refine (HCP.out _).mono ?_); rintro e w' ⟨rfl, rfl⟩) | (go_at_call 86; (with_reducible refine (HRT.out _).mono ?_); rintro e w' ⟨rfl, n9, rfl⟩))
    refine bodyPost_ret (v := .tuple #[.agg #[.int .i64 0, .string ⟨#[]⟩, .bool false, .int .i64 0, .string ⟨#[]⟩], .bool false]) (by simp [results, Tryz.results36, go_sem, c30, c31, c32, c33, c34]) rfl ⟨mtZ, rfl, mtO_none _, ?_⟩
    repeat (first | exact R3.below | with_reducible refine below_drewN ?_ _ | (with_reducible refine Below.setCell ?_ (by simp) _))
  | some q =>
    obtain ⟨n, r⟩ := q
    obtain ⟨⟨hn1, hn2⟩, hbr⟩ := rdD_bd ho
    obtain ⟨R, hR⟩ : ∃ R : ByteArray, R = ⟨r.toArray⟩ := ⟨_, rfl⟩
    have hRd : R.data.toList = r := by rw [hR]
    rw [ho] at hrd
    have hrd : ∀ w, Calls Tryz.prog 84 #[.string s] w fun e w' => e = .returned (.tuple #[.int .i64 n, .string R, .bool true]) ∧ Below w.heap.size w w' := fun w => by rw [hR]; exact hrd w
    have hcp := fun w => cutPre_calls R ⟨#[84]⟩ w
    rw [hRd] at hcp
    obtain ⟨Q, hQ⟩ : ∃ Q : ByteArray, Q = ⟨(Lib.trimPrefix r [84]).toArray⟩ := ⟨_, rfl⟩
    have hQd : Q.data.toList = Lib.trimPrefix r [84] := by rw [hQ]
    have hQs : Q.size ≤ 4000000000 := by
      rw [Lib.size_eq, hQd]
      unfold Lib.trimPrefix
      split
      · rw [List.length_drop]; omega
      · omega
    have hcp : ∀ w, Calls Tryz.prog 85 #[.string R, .string ⟨#[84]⟩] w fun e w' => e = .returned (.tuple #[.string Q, .bool (Lib.hasPrefix r [84])]) ∧ w = w' := fun w => by rw [hQ]; exact hcp w
    have hrt := fun w => readTime_calls Q w hQs
    have HRD := Lib.hid hrd
    dsimp only
    clear hrd hR hRd ho
    cases htt : Lib.hasPrefix r [84] with
    | false =>
      rw [htt] at hcp
      rw [if_neg (by simp)]
      have HCP := Lib.hid hcp
      clear hcp htt
      cases hq : rdT Q.data.toList with
      | none =>
        rw [hq] at hrt
        have hrt : ∀ w, Calls Tryz.prog 86 #[.string Q] w fun e w' => e = .returned (.tuple #[.int .i64 0, .string ⟨#[]⟩, .string ⟨#[]⟩, .bool false]) ∧ ∃ n, w' = w.drewN n := hrt
        have HRT := Lib.hid hrt
        clear hrt hq hQ hQd hsz
        go_enter Tryz.func36, Tryz.ntmps36
        go_wp2_with (first | (go_at_call 84; (with_reducible refine (HRD.out _).mono ?_); rintro e w3 ⟨rfl, hb3⟩; (have R3 := (Res1.start 76 #[.int .i64 0, .string ⟨#[]⟩, .bool false, .int .i64 0, .string ⟨#[]⟩] w).next hb3); (have c30 : w3.cell? ⟨w.heap.size, 0, none⟩ = some (.int .i64 0) := R3.cell 0); (have c31 : w3.cell? ⟨w.heap.size, 1, none⟩ = some (.string ⟨#[]⟩) := R3.cell 1); (have c32 : w3.cell? ⟨w.heap.size, 2, none⟩ = some (.bool false) := R3.cell 2); (have c33 : w3.cell? ⟨w.heap.size, 3, none⟩ = some (.int .i64 0) := R3.cell 3); (have c34 : w3.cell? ⟨w.heap.size, 4, none⟩ = some (.string ⟨#[]⟩) := R3.cell 4); (have f3 : ∀ i, w3.frozen? ⟨w.heap.size, i, none⟩ = false := R3.frozen)) | (go_at_call 85; (with_reducible refine (HCP.out _).mono ?_); rintro e w' ⟨rfl, rfl⟩) | (go_at_call 86; (with_reducible refine (HRT.out _).mono ?_); rintro e w' ⟨rfl, n9, rfl⟩))
        refine bodyPost_ret (v := .tuple #[.agg #[.int .i64 0, .string ⟨#[]⟩, .bool false, .int .i64 0, .string ⟨#[]⟩], .bool false]) (by simp [results, Tryz.results36, go_sem, c30, c31, c32, c33, c34]) rfl ⟨mtZ, rfl, mtO_none _, ?_⟩
        repeat (first | exact R3.below | with_reducible refine below_drewN ?_ _ | (with_reducible refine Below.setCell ?_ (by simp) _))
      | some x =>
        obtain ⟨c, p, z⟩ := x
        rw [hq] at hrt
        have hrt : ∀ w, Calls Tryz.prog 86 #[.string Q] w fun e w' => e = .returned (.tuple #[.int .i64 c, .string ⟨p.toArray⟩, .string ⟨z.toArray⟩, .bool true]) ∧ ∃ n, w' = w.drewN n := hrt
        have HRT := Lib.hid hrt
        clear hrt hq hQ hQd hsz
        go_enter Tryz.func36, Tryz.ntmps36
        go_wp2_with (first | (go_at_call 84; (with_reducible refine (HRD.out _).mono ?_); rintro e w3 ⟨rfl, hb3⟩; (have R3 := (Res1.start 76 #[.int .i64 0, .string ⟨#[]⟩, .bool false, .int .i64 0, .string ⟨#[]⟩] w).next hb3); (have c30 : w3.cell? ⟨w.heap.size, 0, none⟩ = some (.int .i64 0) := R3.cell 0); (have c31 : w3.cell? ⟨w.heap.size, 1, none⟩ = some (.string ⟨#[]⟩) := R3.cell 1); (have c32 : w3.cell? ⟨w.heap.size, 2, none⟩ = some (.bool false) := R3.cell 2); (have c33 : w3.cell? ⟨w.heap.size, 3, none⟩ = some (.int .i64 0) := R3.cell 3); (have c34 : w3.cell? ⟨w.heap.size, 4, none⟩ = some (.string ⟨#[]⟩) := R3.cell 4); (have f3 : ∀ i, w3.frozen? ⟨w.heap.size, i, none⟩ = false := R3.frozen)) | (go_at_call 85; (with_reducible refine (HCP.out _).mono ?_); rintro e w' ⟨rfl, rfl⟩) | (go_at_call 86; (with_reducible refine (HRT.out _).mono ?_); rintro e w' ⟨rfl, n9, rfl⟩))
        refine bodyPost_ret (v := .tuple #[.agg #[.int .i64 0, .string ⟨#[]⟩, .bool false, .int .i64 0, .string ⟨#[]⟩], .bool false]) (by simp [results, Tryz.results36, go_sem, c30, c31, c32, c33, c34]) rfl ⟨mtZ, rfl, mtO_none _, ?_⟩
        repeat (first | exact R3.below | with_reducible refine below_drewN ?_ _ | (with_reducible refine Below.setCell ?_ (by simp) _))
    | true =>
    rw [htt] at hcp
    rw [if_pos rfl]
    have hQ2 : Q.data.toList = r.drop 1 := by rw [hQd]; unfold Lib.trimPrefix; rw [htt]; rfl
    have HCP := Lib.hid hcp
    clear hcp htt hQ hQd
    rw [← hQ2]
    cases hq : rdT Q.data.toList with
    | none =>
      rw [hq] at hrt
      have hrt : ∀ w, Calls Tryz.prog 86 #[.string Q] w fun e w' => e = .returned (.tuple #[.int .i64 0, .string ⟨#[]⟩, .string ⟨#[]⟩, .bool false]) ∧ ∃ n, w' = w.drewN n := hrt
      have HRT := Lib.hid hrt
      clear hrt hq hQ2 hsz
      dsimp only
      go_enter Tryz.func36, Tryz.ntmps36
      go_wp2_with (first | (go_at_call 84; (with_reducible refine (HRD.out _).mono ?_); rintro e w3 ⟨rfl, hb3⟩; (have R3 := (Res1.start 76 #[.int .i64 0, .string ⟨#[]⟩, .bool false, .int .i64 0, .string ⟨#[]⟩] w).next hb3); (have c30 : w3.cell? ⟨w.heap.size, 0, none⟩ = some (.int .i64 0) := R3.cell 0); (have c31 : w3.cell? ⟨w.heap.size, 1, none⟩ = some (.string ⟨#[]⟩) := R3.cell 1); (have c32 : w3.cell? ⟨w.heap.size, 2, none⟩ = some (.bool false) := R3.cell 2); (have c33 : w3.cell? ⟨w.heap.size, 3, none⟩ = some (.int .i64 0) := R3.cell 3); (have c34 : w3.cell? ⟨w.heap.size, 4, none⟩ = some (.string ⟨#[]⟩) := R3.cell 4); (have f3 : ∀ i, w3.frozen? ⟨w.heap.size, i, none⟩ = false := R3.frozen)) | (go_at_call 85; (with_reducible refine (HCP.out _).mono ?_); rintro e w' ⟨rfl, rfl⟩) | (go_at_call 86; (with_reducible refine (HRT.out _).mono ?_); rintro e w' ⟨rfl, n9, rfl⟩))
      refine bodyPost_ret (v := .tuple #[.agg #[.int .i64 0, .string ⟨#[]⟩, .bool false, .int .i64 0, .string ⟨#[]⟩], .bool false]) (by simp [results, Tryz.results36, go_sem, c30, c31, c32, c33, c34]) rfl ⟨mtZ, rfl, mtO_none _, ?_⟩
      repeat (first | exact R3.below | with_reducible refine below_drewN ?_ _ | (with_reducible refine Below.setCell ?_ (by simp) _))
    | some x =>
    obtain ⟨c, p, z⟩ := x
    obtain ⟨⟨hb1, hb2⟩, hbp, hbl⟩ := rdT_bd hq
    rw [hQ2, List.length_drop] at hbl hbp
    obtain ⟨P, hP⟩ : ∃ P : ByteArray, P = ⟨p.toArray⟩ := ⟨_, rfl⟩
    obtain ⟨Z, hZ⟩ : ∃ Z : ByteArray, Z = ⟨z.toArray⟩ := ⟨_, rfl⟩
    have hPd : P.data.toList = p := by rw [hP]
    have hZd : Z.data.toList = z := by rw [hZ]
    have hZs : Z.size ≤ 4000000000 := by rw [Lib.size_eq, hZd]; omega
    rw [hq] at hrt
    have hrt : ∀ w, Calls Tryz.prog 86 #[.string Q] w fun e w' => e = .returned (.tuple #[.int .i64 c, .string P, .string Z, .bool true]) ∧ ∃ n, w' = w.drewN n := fun w => by rw [hZ, hP]; exact hrt w
    have hin := fun w => in_calls (n * 86400 + c) P Z w hZs
    rw [hZd, hPd] at hin
    obtain ⟨m, hm⟩ : ∃ m, m = inV (n * 86400 + c) p z := ⟨_, rfl⟩
    obtain ⟨ok, hok⟩ : ∃ b, b = (rdZ z).isSome := ⟨_, rfl⟩
    dsimp only
    have hin : ∀ w, Calls Tryz.prog 87 #[.agg #[.int .i64 (n * 86400 + c), .string P, .bool false, .int .i64 0, .string ⟨#[]⟩], .string Z] w fun e w' => e = .returned (.tuple #[m.val, .bool ok]) ∧ Below w.heap.size w w' := fun w => by rw [hm, hok]; exact hin w
    have hmo := mtO_in (n * 86400 + c) p z
    have his := inP_some (n * 86400 + c) p z
    rw [← hm] at hmo
    rw [← hok] at his
    obtain ⟨O, hO⟩ : ∃ O, O = inP (n * 86400 + c) p z := ⟨_, rfl⟩
    rw [← hO] at hmo his ⊢
    obtain ⟨ms, mp, mz, mn, mq⟩ := m
    have HMO := Lib.hid hmo
    have HIS := Lib.hid his
    unfold Mt.val at hin
    dsimp only at hin
    have HIN := Lib.hid hin
    have HRT := Lib.hid hrt
    clear hrt hq hsz hin hm hok hmo his hZ hZd hP hPd hbl hbp hbr hO hQ2
    go_enter Tryz.func36, Tryz.ntmps36
    go_wp2_with (first | (go_at_call 84; (with_reducible refine (HRD.out _).mono ?_); rintro e w3 ⟨rfl, hb3⟩; (have R3 := (Res1.start 76 #[.int .i64 0, .string ⟨#[]⟩, .bool false, .int .i64 0, .string ⟨#[]⟩] w).next hb3); (have c30 : w3.cell? ⟨w.heap.size, 0, none⟩ = some (.int .i64 0) := R3.cell 0); (have c31 : w3.cell? ⟨w.heap.size, 1, none⟩ = some (.string ⟨#[]⟩) := R3.cell 1); (have c32 : w3.cell? ⟨w.heap.size, 2, none⟩ = some (.bool false) := R3.cell 2); (have c33 : w3.cell? ⟨w.heap.size, 3, none⟩ = some (.int .i64 0) := R3.cell 3); (have c34 : w3.cell? ⟨w.heap.size, 4, none⟩ = some (.string ⟨#[]⟩) := R3.cell 4); (have f3 : ∀ i, w3.frozen? ⟨w.heap.size, i, none⟩ = false := R3.frozen)) | (go_at_call 85; (with_reducible refine (HCP.out _).mono ?_); rintro e w' ⟨rfl, rfl⟩) | (go_at_call 86; (with_reducible refine (HRT.out _).mono ?_); rintro e w' ⟨rfl, n9, rfl⟩) | (go_at_call 87; (with_reducible refine (HIN.out _).mono ?_); rintro e w4 ⟨rfl, hb4⟩; (have R4 := (R3.drewN _).next hb4); (have c40 : w4.cell? ⟨w.heap.size, 0, none⟩ = some (.int .i64 0) := R4.cell 0); (have c41 : w4.cell? ⟨w.heap.size, 1, none⟩ = some (.string ⟨#[]⟩) := R4.cell 1); (have c42 : w4.cell? ⟨w.heap.size, 2, none⟩ = some (.bool false) := R4.cell 2); (have c43 : w4.cell? ⟨w.heap.size, 3, none⟩ = some (.int .i64 0) := R4.cell 3); (have c44 : w4.cell? ⟨w.heap.size, 4, none⟩ = some (.string ⟨#[]⟩) := R4.cell 4); (have f4 : ∀ i, w4.frozen? ⟨w.heap.size, i, none⟩ = false := R4.frozen)))
    refine bodyPost_ret (v := .tuple #[.agg #[.int .i64 ms, .string ⟨mp.toArray⟩, .bool mz, .int .i64 mn, .string ⟨mq.toArray⟩], .bool ok]) (by simp [results, Tryz.results36, go_sem, c40, c41, c42, c43, c44]) rfl ⟨⟨ms, mp, mz, mn, mq⟩, by rw [HIS.out]; rfl, HMO.out, ?_⟩
    repeat (first | exact R4.below | with_reducible refine below_drewN ?_ _ | (with_reducible refine Below.setCell ?_ (by simp) _))
end Go.Proofs.YtlhcejbimlilaaaGreatDoor
/- The program's own texts of moments. -/
namespace Go.Tk
open Go Go.RowKit Go.Proofs.YtlhcejbimlilaaaGreatDoor
structure MtS (m : Mt) (L : Nat) : Prop where
  s1 : -33000000000000000 ≤ m.sec
  s2 : m.sec ≤ 33000000000000000
  z1 : -900 ≤ m.zone
  z2 : m.zone ≤ 900
  pl : m.part.length ≤ L
  sl : m.sp.length ≤ L + 1
theorem rdZ_bd {z : List UInt8} {x : Bool × Int} (h : rdZ z = some x) : -900 ≤ x.2 ∧ x.2 ≤ 900 := by
  cases z with
  | nil =>
    obtain rfl := Option.some.inj (show some (false, (0 : Int)) = some x from h)
    simp
  | cons c t =>
    rw [rdZ_eq] at h
    split at h
    · obtain rfl := Option.some.inj h; simp
    split at h
    · cases h
    unfold rdZ2 at h
    cases h1 : twoP t [58] with
    | none => rw [h1] at h; cases h
    | some q =>
      obtain ⟨hh, r⟩ := q
      rw [h1] at h
      simp only at h
      unfold rdZ3 at h
      cases h2 : twoP r [] with
      | none => rw [h2] at h; cases h
      | some q =>
        obtain ⟨m, e⟩ := q
        rw [h2] at h
        simp only at h
        have b1 := twoP_bd h1
        have b2 := twoP_bd h2
        split at h
        · cases h
        · rename_i hn
          obtain rfl := Option.some.inj h
          have n1 : ¬ 59 < m := fun g => hn (.inr (.inl g))
          have n2 : ¬ 14 < hh := fun g => hn (.inr (.inr (.inl g)))
          dsimp only
          split <;> omega
theorem inP_bd {sec : Int} {p z : List UInt8} {m : Mt} {L : Nat} (h : inP sec p z = some m) (h1 : -33000000000000000 ≤ sec) (h2 : sec ≤ 33000000000000000) (hp : p.length ≤ L) (hz : z.length ≤ L) : MtS m L := by
  unfold inP at h
  cases ho : rdZ z with
  | none => rw [ho] at h; cases h
  | some x =>
    rw [ho] at h
    obtain rfl := Option.some.inj h
    have hb := rdZ_bd ho
    refine ⟨h1, h2, hb.1, hb.2, hp, ?_⟩
    dsimp only
    split
    · simp
    · omega
theorem rdDay_bd {s : List UInt8} {m : Mt} (h : rdDay s = some m) : MtS m s.length := by
  unfold rdDay at h
  cases ho : rdD s with
  | none => rw [ho] at h; cases h
  | some q =>
    obtain ⟨n, z⟩ := q
    rw [ho] at h
    have hb := rdD_bd ho
    exact inP_bd h (by omega) (by omega) (by simp) hb.2
theorem rdClk_bd {s : List UInt8} {m : Mt} (h : rdClk s = some m) : MtS m s.length := by
  unfold rdClk at h
  cases ho : rdT s with
  | none => rw [ho] at h; cases h
  | some q =>
    obtain ⟨c, p, z⟩ := q
    rw [ho] at h
    have hb := rdT_bd ho
    exact inP_bd h (by omega) (by omega) hb.2.1 hb.2.2
theorem rdDT_bd {s : List UInt8} {m : Mt} (h : rdDT s = some m) : MtS m s.length := by
  unfold rdDT at h
  cases ho : rdD s with
  | none => rw [ho] at h; cases h
  | some q =>
    obtain ⟨n, r⟩ := q
    rw [ho] at h
    have hb := rdD_bd ho
    simp only at h
    split at h
    · cases hq : rdT (r.drop 1) with
      | none => rw [hq] at h; cases h
      | some x =>
        obtain ⟨c, p, z⟩ := x
        rw [hq] at h
        have hc := rdT_bd hq
        rw [List.length_drop] at hc
        exact inP_bd h (by omega) (by omega) (by omega) (by omega)
    · cases h
theorem MtS.b {m : Mt} {L : Nat} (h : MtS m L) : MtB m := ⟨by have := h.s1; omega, by have := h.s2; omega, by have := h.z1; omega, by have := h.z2; omega⟩
end Go.Tk
namespace Go.Proofs.YtlhcejbimlilaaaGreatDoor
open Go.RowKit Go.Tk
end Go.Proofs.YtlhcejbimlilaaaGreatDoor
