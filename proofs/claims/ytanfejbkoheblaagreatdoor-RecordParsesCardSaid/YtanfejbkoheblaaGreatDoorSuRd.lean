/- record.Read, walked. Its lines for the single fields are printed by wip/tools/gen_rd.py. -/
import Derived.Test.YtanfejbkoheblaaGreatDoorSuM3
import Derived.Test.YtanfejbkoheblaaGreatDoorSuM16
set_option linter.unusedVariables false
set_option linter.unusedSimpArgs false
set_option maxRecDepth 10000
namespace CI
open Go
namespace Seat
open Quo Rcd Spl
variable {H : Heap} {nx : Nat}
theorem le_sum {w : W} : ∀ {ws : List W}, w ∈ ws → w.length ≤ (ws.map List.length).sum
  | [], h => by cases h
  | v :: ws, h => by
    simp only [List.map_cons, List.sum_cons]
    rcases List.mem_cons.1 h with rfl | h
    · omega
    · have := le_sum h
      omega
theorem spl_short (l : W) : ∀ w ∈ spl l, w.length ≤ l.length := by
  intro w h
  have h1 := le_sum h
  have h2 := joi_len (spl l)
  rw [spl_joi] at h2
  omega
def Sh (q : Q) : Prop := ∀ w ∈ q.1, w.length ≤ 1000000
theorem Sh.is {q : Q} (h : Sh q) (s : W) : Sh (isQ s q) := (nextQ_len h).2
theorem Sh.num {q : Q} (h : Sh q) : Sh (numQ q).2 := (nextQ_len h).2
theorem Sh.bytes {q : Q} (h : Sh q) : Sh (bytesQ q).2 := (nextQ_len h).2
theorem Sh.flag {q : Q} (h : Sh q) : Sh (flagQ q).2 := (nextQ_len h).2
theorem Sh.kind {q : Q} (h : Sh q) : Sh (kindS q).2 := (nextQ_len h).2
theorem FrP.toO {n0 p : Nat} {H' : Heap} {nx' : Nat} (h : FrP p H nx H' nx') (hn : n0 ≤ nx) (hp : n0 ≤ p) (hfr : ∀ b, nx ≤ b → H.get b = none) : FrO n0 H nx H' nx' :=
  ⟨h.le, fun c hc => h.old c (by omega) (by omega), h.fr hfr⟩
theorem FrO.put {n0 p : Nat} (hp : n0 ≤ p) (hp2 : p < nx) (hfr : ∀ b, nx ≤ b → H.get b = none) (ob : Option AObj) : FrO n0 H nx (H.put p ob) nx :=
  ⟨Nat.le_refl _, fun c hc => Tr.get_put_ne _ _ _ _ (by omega), fun b hb => by rw [Tr.get_put_ne _ _ _ _ (by omega)]; exact hfr b hb⟩
theorem al39 : allocOp cx.T H nx 39 = some (.ptr nx 0, H.put nx (some (.cells (recC Rec.zero) 39 false)), nx + 1) := by kernel_rfl
theorem bd39 : buildOp cx.T 39 [] = some (.agg (recC Rec.zero)) := by kernel_rfl
theorem bdw (v : AV) (b o n : Nat) (k : Option Nat) : buildOp cx.T 138 [(0, .slice b o n k 1)] = some (.agg [.slice b o n k 1, .lit (.bool false)]) := by kernel_rfl
theorem bxw (b o n : Nat) (k : Option Nat) : boxOp H nx 138 (.agg [.slice b o n k 1, .lit (.bool false)]) = some (.ptr nx 0, H.put nx (some (.cells [.slice b o n k 1, .lit (.bool false)] 138 false)), nx + 1) := by kernel_rfl
theorem read_rec (w0 : World) (l : W) (hl : l.length ≤ 100000) (hfr : ∀ b, nx ≤ b → H.get b = none) :
    ∃ v H' nx', Cl cx 38 [strA l] H nx = some (v, H', nx') ∧ (v = .tuple [.agg (recC ((readR l).getD Rec.zero)), .lit (.int .i64 (if (readR l).isSome then 0 else 4))] ∧ Fr H nx H' nx') := by
  refine wpP38 _ _ _ _ (by simp) ?_
  unfold s38
  have F1 := Fr.put hfr (some (.cells (recC Rec.zero) 39 false))
  obtain ⟨H2, a1, a2, a3⟩ := split_cl (H := H.put nx (some (.cells (recC Rec.zero) 39 false))) (nx := nx + 1) w0 l hl
  have fr2 : ∀ b, nx + 2 ≤ b → H2.get b = none := fun b hb => by rw [a3 b (by omega)]; exact F1.fr b (by omega)
  obtain ⟨H3, hH3⟩ : ∃ H3, H3 = H2.put (nx + 2) (some (.cells [.slice (nx + 1) 0 (spl l).length (some (spl l).length) 1, .lit (.bool false)] 138 false)) := ⟨_, rfl⟩
  have fr3 : ∀ b, nx + 3 ≤ b → H3.get b = none := fun b hb => by rw [hH3, Tr.get_put_ne _ _ _ _ (by omega)]; exact fr2 b (by omega)
  have w3 : Ws H3 (nx + 3) (nx + 2) [] 138 (spl l, false) := by
    refine ⟨by omega, nx + 1, 0, spl l, ?_, by omega, by omega, ?_, fun _ => rfl⟩
    · rw [hH3]; exact Tr.get_put_same _ _ _
    · rw [hH3, Tr.get_put_ne _ _ _ _ (by omega)]; exact a2
  have s3 : Sh (spl l, false) := fun w hw => by have := spl_short l w hw; omega
  have o3 : ∀ c, c < nx + 1 → H3.get c = (H.put nx (some (.cells (recC Rec.zero) 39 false))).get c := fun c hc => by rw [hH3, Tr.get_put_ne _ _ _ _ (by omega), a3 c (by omega)]
  obtain ⟨H4, b1, b2, b3⟩ := is_cl (nx := nx + 3) w3 (Nat.le_refl _) wVerdict
  have fr4 := b3.fr fr3
  have F5 := Fr.put fr4 (some (.cells (recC Rec.zero) 39 false))
  have O5 : FrO (nx + 1) H3 (nx + 3) (H4.put (nx + 3) (some (.cells (recC Rec.zero) 39 false))) (nx + 3 + 1) := (b3.toO (by omega) (by omega) fr3).trans (F5.toO (by omega))
  have w5 := b2.mono (H' := H4.put (nx + 3) (some (.cells (recC Rec.zero) 39 false))) (fun c hc => F5.old c hc)
  have s5 := s3.is wVerdict
  have p5 : (H4.put (nx + 3) (some (.cells (recC Rec.zero) 39 false))).get (nx + 3) = some (.cells (recC Rec.zero) 39 false) := Tr.get_put_same _ _ _
  have g5 : nx + 3 + 1 ≤ nx + 3 + 1 := Nat.le_refl _
  obtain ⟨A0, m0, c0, w6, f0⟩ := number_cl (nx := (nx + 3 + 1)) w5 (by omega) s5 O5.fr
  have s6 := s5.num
  have O6 := O5.trans (f0.toO (n0 := nx + 1) (by omega) (by omega) O5.fr)
  have p6 : A0.get (nx + 3) = _ := (f0.old (nx + 3) (by omega) (by omega)).trans p5
  have g6 : nx + 3 + 1 ≤ m0 := by have := f0.le; omega
  obtain ⟨A1, m1, c1, w7, f1⟩ := number_cl (nx := m0) w6 (by omega) s6 O6.fr
  have s7 := s6.num
  have O7 := O6.trans (f1.toO (n0 := nx + 1) (by omega) (by omega) O6.fr)
  have p7 : A1.get (nx + 3) = _ := (f1.old (nx + 3) (by omega) (by omega)).trans p6
  have g7 : nx + 3 + 1 ≤ m1 := by have := f1.le; omega
  obtain ⟨A2, m2, c2, w8, f2⟩ := kind_cl (nx := m1) w7 (by omega) O7.fr
  have s8 := s7.kind
  have O8 := O7.trans (f2.toO (n0 := nx + 1) (by omega) (by omega) O7.fr)
  have p8 : A2.get (nx + 3) = _ := (f2.old (nx + 3) (by omega) (by omega)).trans p7
  have g8 : nx + 3 + 1 ≤ m2 := by have := f2.le; omega
  have e0 := st_at (t := 24) (v := .lit (.int .i64 (numQ (isQ wVerdict (spl l, false))).1)) (by kernel_rfl) p8 (o := 0) (by simp [recC]) rfl rfl
  obtain ⟨B0, hB0⟩ : ∃ B, B = A2.put (nx + 3) (some (.cells ((recC Rec.zero).set 0 (.lit (.int .i64 (numQ (isQ wVerdict (spl l, false))).1))) 39 false)) := ⟨_, rfl⟩
  rw [← hB0] at e0
  have p9 : B0.get (nx + 3) = _ := (congrArg (fun X => Tr.get X (nx + 3)) hB0).trans (Tr.get_put_same _ _ _)
  have O9 : FrO (nx + 1) H3 (nx + 3) B0 m2 := by rw [hB0]; exact O8.trans (FrO.put (by omega) (by omega) O8.fr _)
  have w9 := w8.mono (H' := B0) (fun c hc => by rw [hB0]; exact Tr.get_put_ne _ _ _ _ (by omega))
  have s9 := s8
  have g9 := g8
  have e1 := st_at (t := 3) (v := .lit (.int .i64 (numQ (numQ (isQ wVerdict (spl l, false))).2).1)) (by kernel_rfl) p9 (o := 1) (by simp [recC]) rfl rfl
  obtain ⟨B1, hB1⟩ : ∃ B, B = B0.put (nx + 3) (some (.cells (((recC Rec.zero).set 0 (.lit (.int .i64 (numQ (isQ wVerdict (spl l, false))).1))).set 1 (.lit (.int .i64 (numQ (numQ (isQ wVerdict (spl l, false))).2).1))) 39 false)) := ⟨_, rfl⟩
  rw [← hB1] at e1
  have p10 : B1.get (nx + 3) = _ := (congrArg (fun X => Tr.get X (nx + 3)) hB1).trans (Tr.get_put_same _ _ _)
  have O10 : FrO (nx + 1) H3 (nx + 3) B1 m2 := by rw [hB1]; exact O9.trans (FrO.put (by omega) (by omega) O9.fr _)
  have w10 := w9.mono (H' := B1) (fun c hc => by rw [hB1]; exact Tr.get_put_ne _ _ _ _ (by omega))
  have s10 := s9
  have g10 := g9
  have e2 := st_at (t := 3) (v := .lit (.int .i64 (kindS (numQ (numQ (isQ wVerdict (spl l, false))).2).2).1)) (by kernel_rfl) p10 (o := 2) (by simp [recC]) rfl rfl
  obtain ⟨B2, hB2⟩ : ∃ B, B = B1.put (nx + 3) (some (.cells ((((recC Rec.zero).set 0 (.lit (.int .i64 (numQ (isQ wVerdict (spl l, false))).1))).set 1 (.lit (.int .i64 (numQ (numQ (isQ wVerdict (spl l, false))).2).1))).set 2 (.lit (.int .i64 (kindS (numQ (numQ (isQ wVerdict (spl l, false))).2).2).1))) 39 false)) := ⟨_, rfl⟩
  rw [← hB2] at e2
  have p11 : B2.get (nx + 3) = _ := (congrArg (fun X => Tr.get X (nx + 3)) hB2).trans (Tr.get_put_same _ _ _)
  have O11 : FrO (nx + 1) H3 (nx + 3) B2 m2 := by rw [hB2]; exact O10.trans (FrO.put (by omega) (by omega) O10.fr _)
  have w11 := w10.mono (H' := B2) (fun c hc => by rw [hB2]; exact Tr.get_put_ne _ _ _ _ (by omega))
  have s11 := s10
  have g11 := g10
  obtain ⟨A3, m3, c3, w12, f3⟩ := number_cl (nx := m2) w11 (by omega) s11 O11.fr
  have s12 := s11.num
  have O12 := O11.trans (f3.toO (n0 := nx + 1) (by omega) (by omega) O11.fr)
  have p12 : A3.get (nx + 3) = _ := (f3.old (nx + 3) (by omega) (by omega)).trans p11
  have g12 : nx + 3 + 1 ≤ m3 := by have := f3.le; omega
  obtain ⟨A4, m4, c4, w13, f4⟩ := number_cl (nx := m3) w12 (by omega) s12 O12.fr
  have s13 := s12.num
  have O13 := O12.trans (f4.toO (n0 := nx + 1) (by omega) (by omega) O12.fr)
  have p13 : A4.get (nx + 3) = _ := (f4.old (nx + 3) (by omega) (by omega)).trans p12
  have g13 : nx + 3 + 1 ≤ m4 := by have := f4.le; omega
  have e3 := st_at (t := 3) (v := .lit (.int .i64 (numQ (kindS (numQ (numQ (isQ wVerdict (spl l, false))).2).2).2).1)) (by kernel_rfl) p13 (o := 3) (by simp [recC]) rfl rfl
  obtain ⟨B3, hB3⟩ : ∃ B, B = A4.put (nx + 3) (some (.cells (((((recC Rec.zero).set 0 (.lit (.int .i64 (numQ (isQ wVerdict (spl l, false))).1))).set 1 (.lit (.int .i64 (numQ (numQ (isQ wVerdict (spl l, false))).2).1))).set 2 (.lit (.int .i64 (kindS (numQ (numQ (isQ wVerdict (spl l, false))).2).2).1))).set 3 (.lit (.int .i64 (numQ (kindS (numQ (numQ (isQ wVerdict (spl l, false))).2).2).2).1))) 39 false)) := ⟨_, rfl⟩
  rw [← hB3] at e3
  have p14 : B3.get (nx + 3) = _ := (congrArg (fun X => Tr.get X (nx + 3)) hB3).trans (Tr.get_put_same _ _ _)
  have O14 : FrO (nx + 1) H3 (nx + 3) B3 m4 := by rw [hB3]; exact O13.trans (FrO.put (by omega) (by omega) O13.fr _)
  have w14 := w13.mono (H' := B3) (fun c hc => by rw [hB3]; exact Tr.get_put_ne _ _ _ _ (by omega))
  have s14 := s13
  have g14 := g13
  have e4 := st_at (t := 3) (v := .lit (.int .i64 (numQ (numQ (kindS (numQ (numQ (isQ wVerdict (spl l, false))).2).2).2).2).1)) (by kernel_rfl) p14 (o := 4) (by simp [recC]) rfl rfl
  obtain ⟨B4, hB4⟩ : ∃ B, B = B3.put (nx + 3) (some (.cells ((((((recC Rec.zero).set 0 (.lit (.int .i64 (numQ (isQ wVerdict (spl l, false))).1))).set 1 (.lit (.int .i64 (numQ (numQ (isQ wVerdict (spl l, false))).2).1))).set 2 (.lit (.int .i64 (kindS (numQ (numQ (isQ wVerdict (spl l, false))).2).2).1))).set 3 (.lit (.int .i64 (numQ (kindS (numQ (numQ (isQ wVerdict (spl l, false))).2).2).2).1))).set 4 (.lit (.int .i64 (numQ (numQ (kindS (numQ (numQ (isQ wVerdict (spl l, false))).2).2).2).2).1))) 39 false)) := ⟨_, rfl⟩
  rw [← hB4] at e4
  have p15 : B4.get (nx + 3) = _ := (congrArg (fun X => Tr.get X (nx + 3)) hB4).trans (Tr.get_put_same _ _ _)
  have O15 : FrO (nx + 1) H3 (nx + 3) B4 m4 := by rw [hB4]; exact O14.trans (FrO.put (by omega) (by omega) O14.fr _)
  have w15 := w14.mono (H' := B4) (fun c hc => by rw [hB4]; exact Tr.get_put_ne _ _ _ _ (by omega))
  have s15 := s14
  have g15 := g14
  obtain ⟨A5, m5, c5, w16, f5⟩ := bytes_cl (nx := m4) w15 (by omega) s15 O15.fr
  have s16 := s15.bytes
  have O16 := O15.trans (f5.toO (n0 := nx + 1) (by omega) (by omega) O15.fr)
  have p16 : A5.get (nx + 3) = _ := (f5.old (nx + 3) (by omega) (by omega)).trans p15
  have g16 : nx + 3 + 1 ≤ m5 := by have := f5.le; omega
  obtain ⟨A6, m6, c6, w17, f6⟩ := bytes_cl (nx := m5) w16 (by omega) s16 O16.fr
  have s17 := s16.bytes
  have O17 := O16.trans (f6.toO (n0 := nx + 1) (by omega) (by omega) O16.fr)
  have p17 : A6.get (nx + 3) = _ := (f6.old (nx + 3) (by omega) (by omega)).trans p16
  have g17 : nx + 3 + 1 ≤ m6 := by have := f6.le; omega
  obtain ⟨A7, m7, c7, w18, f7⟩ := bytes_cl (nx := m6) w17 (by omega) s17 O17.fr
  have s18 := s17.bytes
  have O18 := O17.trans (f7.toO (n0 := nx + 1) (by omega) (by omega) O17.fr)
  have p18 : A7.get (nx + 3) = _ := (f7.old (nx + 3) (by omega) (by omega)).trans p17
  have g18 : nx + 3 + 1 ≤ m7 := by have := f7.le; omega
  obtain ⟨A8, c8, w19, f8⟩ := flag_cl (nx := m7) w18 (by omega)
  have s19 := s18.flag
  have O19 := O18.trans (f8.toO (n0 := nx + 1) (by omega) (by omega) O18.fr)
  have p19 : A8.get (nx + 3) = _ := (f8.old (nx + 3) (by omega) (by omega)).trans p18
  have g19 : nx + 3 + 1 ≤ m7 := by have := f8.le; omega
  have e5 := st_at (t := 9) (v := strA (bytesQ (numQ (numQ (kindS (numQ (numQ (isQ wVerdict (spl l, false))).2).2).2).2).2).1) (by kernel_rfl) p19 (o := 5) (by simp [recC]) rfl rfl
  obtain ⟨B5, hB5⟩ : ∃ B, B = A8.put (nx + 3) (some (.cells (((((((recC Rec.zero).set 0 (.lit (.int .i64 (numQ (isQ wVerdict (spl l, false))).1))).set 1 (.lit (.int .i64 (numQ (numQ (isQ wVerdict (spl l, false))).2).1))).set 2 (.lit (.int .i64 (kindS (numQ (numQ (isQ wVerdict (spl l, false))).2).2).1))).set 3 (.lit (.int .i64 (numQ (kindS (numQ (numQ (isQ wVerdict (spl l, false))).2).2).2).1))).set 4 (.lit (.int .i64 (numQ (numQ (kindS (numQ (numQ (isQ wVerdict (spl l, false))).2).2).2).2).1))).set 5 (strA (bytesQ (numQ (numQ (kindS (numQ (numQ (isQ wVerdict (spl l, false))).2).2).2).2).2).1)) 39 false)) := ⟨_, rfl⟩
  rw [← hB5] at e5
  have p20 : B5.get (nx + 3) = _ := (congrArg (fun X => Tr.get X (nx + 3)) hB5).trans (Tr.get_put_same _ _ _)
  have O20 : FrO (nx + 1) H3 (nx + 3) B5 m7 := by rw [hB5]; exact O19.trans (FrO.put (by omega) (by omega) O19.fr _)
  have w20 := w19.mono (H' := B5) (fun c hc => by rw [hB5]; exact Tr.get_put_ne _ _ _ _ (by omega))
  have s20 := s19
  have g20 := g19
  have e6 := st_at (t := 9) (v := strA (bytesQ (bytesQ (numQ (numQ (kindS (numQ (numQ (isQ wVerdict (spl l, false))).2).2).2).2).2).2).1) (by kernel_rfl) p20 (o := 6) (by simp [recC]) rfl rfl
  obtain ⟨B6, hB6⟩ : ∃ B, B = B5.put (nx + 3) (some (.cells ((((((((recC Rec.zero).set 0 (.lit (.int .i64 (numQ (isQ wVerdict (spl l, false))).1))).set 1 (.lit (.int .i64 (numQ (numQ (isQ wVerdict (spl l, false))).2).1))).set 2 (.lit (.int .i64 (kindS (numQ (numQ (isQ wVerdict (spl l, false))).2).2).1))).set 3 (.lit (.int .i64 (numQ (kindS (numQ (numQ (isQ wVerdict (spl l, false))).2).2).2).1))).set 4 (.lit (.int .i64 (numQ (numQ (kindS (numQ (numQ (isQ wVerdict (spl l, false))).2).2).2).2).1))).set 5 (strA (bytesQ (numQ (numQ (kindS (numQ (numQ (isQ wVerdict (spl l, false))).2).2).2).2).2).1)).set 6 (strA (bytesQ (bytesQ (numQ (numQ (kindS (numQ (numQ (isQ wVerdict (spl l, false))).2).2).2).2).2).2).1)) 39 false)) := ⟨_, rfl⟩
  rw [← hB6] at e6
  have p21 : B6.get (nx + 3) = _ := (congrArg (fun X => Tr.get X (nx + 3)) hB6).trans (Tr.get_put_same _ _ _)
  have O21 : FrO (nx + 1) H3 (nx + 3) B6 m7 := by rw [hB6]; exact O20.trans (FrO.put (by omega) (by omega) O20.fr _)
  have w21 := w20.mono (H' := B6) (fun c hc => by rw [hB6]; exact Tr.get_put_ne _ _ _ _ (by omega))
  have s21 := s20
  have g21 := g20
  have e7 := st_at (t := 9) (v := strA (bytesQ (bytesQ (bytesQ (numQ (numQ (kindS (numQ (numQ (isQ wVerdict (spl l, false))).2).2).2).2).2).2).2).1) (by kernel_rfl) p21 (o := 7) (by simp [recC]) rfl rfl
  obtain ⟨B7, hB7⟩ : ∃ B, B = B6.put (nx + 3) (some (.cells (((((((((recC Rec.zero).set 0 (.lit (.int .i64 (numQ (isQ wVerdict (spl l, false))).1))).set 1 (.lit (.int .i64 (numQ (numQ (isQ wVerdict (spl l, false))).2).1))).set 2 (.lit (.int .i64 (kindS (numQ (numQ (isQ wVerdict (spl l, false))).2).2).1))).set 3 (.lit (.int .i64 (numQ (kindS (numQ (numQ (isQ wVerdict (spl l, false))).2).2).2).1))).set 4 (.lit (.int .i64 (numQ (numQ (kindS (numQ (numQ (isQ wVerdict (spl l, false))).2).2).2).2).1))).set 5 (strA (bytesQ (numQ (numQ (kindS (numQ (numQ (isQ wVerdict (spl l, false))).2).2).2).2).2).1)).set 6 (strA (bytesQ (bytesQ (numQ (numQ (kindS (numQ (numQ (isQ wVerdict (spl l, false))).2).2).2).2).2).2).1)).set 7 (strA (bytesQ (bytesQ (bytesQ (numQ (numQ (kindS (numQ (numQ (isQ wVerdict (spl l, false))).2).2).2).2).2).2).2).1)) 39 false)) := ⟨_, rfl⟩
  rw [← hB7] at e7
  have p22 : B7.get (nx + 3) = _ := (congrArg (fun X => Tr.get X (nx + 3)) hB7).trans (Tr.get_put_same _ _ _)
  have O22 : FrO (nx + 1) H3 (nx + 3) B7 m7 := by rw [hB7]; exact O21.trans (FrO.put (by omega) (by omega) O21.fr _)
  have w22 := w21.mono (H' := B7) (fun c hc => by rw [hB7]; exact Tr.get_put_ne _ _ _ _ (by omega))
  have s22 := s21
  have g22 := g21
  have e8 := st_at (t := 4) (v := .lit (.bool (flagQ (bytesQ (bytesQ (bytesQ (numQ (numQ (kindS (numQ (numQ (isQ wVerdict (spl l, false))).2).2).2).2).2).2).2).2).1)) (by kernel_rfl) p22 (o := 8) (by simp [recC]) rfl rfl
  obtain ⟨B8, hB8⟩ : ∃ B, B = B7.put (nx + 3) (some (.cells ((((((((((recC Rec.zero).set 0 (.lit (.int .i64 (numQ (isQ wVerdict (spl l, false))).1))).set 1 (.lit (.int .i64 (numQ (numQ (isQ wVerdict (spl l, false))).2).1))).set 2 (.lit (.int .i64 (kindS (numQ (numQ (isQ wVerdict (spl l, false))).2).2).1))).set 3 (.lit (.int .i64 (numQ (kindS (numQ (numQ (isQ wVerdict (spl l, false))).2).2).2).1))).set 4 (.lit (.int .i64 (numQ (numQ (kindS (numQ (numQ (isQ wVerdict (spl l, false))).2).2).2).2).1))).set 5 (strA (bytesQ (numQ (numQ (kindS (numQ (numQ (isQ wVerdict (spl l, false))).2).2).2).2).2).1)).set 6 (strA (bytesQ (bytesQ (numQ (numQ (kindS (numQ (numQ (isQ wVerdict (spl l, false))).2).2).2).2).2).2).1)).set 7 (strA (bytesQ (bytesQ (bytesQ (numQ (numQ (kindS (numQ (numQ (isQ wVerdict (spl l, false))).2).2).2).2).2).2).2).1)).set 8 (.lit (.bool (flagQ (bytesQ (bytesQ (bytesQ (numQ (numQ (kindS (numQ (numQ (isQ wVerdict (spl l, false))).2).2).2).2).2).2).2).2).1))) 39 false)) := ⟨_, rfl⟩
  rw [← hB8] at e8
  have p23 : B8.get (nx + 3) = _ := (congrArg (fun X => Tr.get X (nx + 3)) hB8).trans (Tr.get_put_same _ _ _)
  have O23 : FrO (nx + 1) H3 (nx + 3) B8 m7 := by rw [hB8]; exact O22.trans (FrO.put (by omega) (by omega) O22.fr _)
  have w23 := w22.mono (H' := B8) (fun c hc => by rw [hB8]; exact Tr.get_put_ne _ _ _ _ (by omega))
  have s23 := s22
  have g23 := g22
  obtain ⟨A9, m9, c9, w24, f9⟩ := number_cl (nx := m7) w23 (by omega) s23 O23.fr
  have s24 := s23.num
  have O24 := O23.trans (f9.toO (n0 := nx + 1) (by omega) (by omega) O23.fr)
  have p24 : A9.get (nx + 3) = _ := (f9.old (nx + 3) (by omega) (by omega)).trans p23
  have g24 : nx + 3 + 1 ≤ m9 := by have := f9.le; omega
  obtain ⟨A10, m10, c10, w25, f10⟩ := number_cl (nx := m9) w24 (by omega) s24 O24.fr
  have s25 := s24.num
  have O25 := O24.trans (f10.toO (n0 := nx + 1) (by omega) (by omega) O24.fr)
  have p25 : A10.get (nx + 3) = _ := (f10.old (nx + 3) (by omega) (by omega)).trans p24
  have g25 : nx + 3 + 1 ≤ m10 := by have := f10.le; omega
  obtain ⟨A11, m11, c11, w26, f11⟩ := number_cl (nx := m10) w25 (by omega) s25 O25.fr
  have s26 := s25.num
  have O26 := O25.trans (f11.toO (n0 := nx + 1) (by omega) (by omega) O25.fr)
  have p26 : A11.get (nx + 3) = _ := (f11.old (nx + 3) (by omega) (by omega)).trans p25
  have g26 : nx + 3 + 1 ≤ m11 := by have := f11.le; omega
  obtain ⟨A12, m12, c12, w27, f12⟩ := number_cl (nx := m11) w26 (by omega) s26 O26.fr
  have s27 := s26.num
  have O27 := O26.trans (f12.toO (n0 := nx + 1) (by omega) (by omega) O26.fr)
  have p27 : A12.get (nx + 3) = _ := (f12.old (nx + 3) (by omega) (by omega)).trans p26
  have g27 : nx + 3 + 1 ≤ m12 := by have := f12.le; omega
  obtain ⟨A13, m13, c13, w28, f13⟩ := number_cl (nx := m12) w27 (by omega) s27 O27.fr
  have s28 := s27.num
  have O28 := O27.trans (f13.toO (n0 := nx + 1) (by omega) (by omega) O27.fr)
  have p28 : A13.get (nx + 3) = _ := (f13.old (nx + 3) (by omega) (by omega)).trans p27
  have g28 : nx + 3 + 1 ≤ m13 := by have := f13.le; omega
  have e9 := st_at (t := 3) (v := .lit (.int .i64 (numQ (flagQ (bytesQ (bytesQ (bytesQ (numQ (numQ (kindS (numQ (numQ (isQ wVerdict (spl l, false))).2).2).2).2).2).2).2).2).2).1)) (by kernel_rfl) p28 (o := 9) (by simp [recC]) rfl rfl
  obtain ⟨B9, hB9⟩ : ∃ B, B = A13.put (nx + 3) (some (.cells (((((((((((recC Rec.zero).set 0 (.lit (.int .i64 (numQ (isQ wVerdict (spl l, false))).1))).set 1 (.lit (.int .i64 (numQ (numQ (isQ wVerdict (spl l, false))).2).1))).set 2 (.lit (.int .i64 (kindS (numQ (numQ (isQ wVerdict (spl l, false))).2).2).1))).set 3 (.lit (.int .i64 (numQ (kindS (numQ (numQ (isQ wVerdict (spl l, false))).2).2).2).1))).set 4 (.lit (.int .i64 (numQ (numQ (kindS (numQ (numQ (isQ wVerdict (spl l, false))).2).2).2).2).1))).set 5 (strA (bytesQ (numQ (numQ (kindS (numQ (numQ (isQ wVerdict (spl l, false))).2).2).2).2).2).1)).set 6 (strA (bytesQ (bytesQ (numQ (numQ (kindS (numQ (numQ (isQ wVerdict (spl l, false))).2).2).2).2).2).2).1)).set 7 (strA (bytesQ (bytesQ (bytesQ (numQ (numQ (kindS (numQ (numQ (isQ wVerdict (spl l, false))).2).2).2).2).2).2).2).1)).set 8 (.lit (.bool (flagQ (bytesQ (bytesQ (bytesQ (numQ (numQ (kindS (numQ (numQ (isQ wVerdict (spl l, false))).2).2).2).2).2).2).2).2).1))).set 9 (.lit (.int .i64 (numQ (flagQ (bytesQ (bytesQ (bytesQ (numQ (numQ (kindS (numQ (numQ (isQ wVerdict (spl l, false))).2).2).2).2).2).2).2).2).2).1))) 39 false)) := ⟨_, rfl⟩
  rw [← hB9] at e9
  have p29 : B9.get (nx + 3) = _ := (congrArg (fun X => Tr.get X (nx + 3)) hB9).trans (Tr.get_put_same _ _ _)
  have O29 : FrO (nx + 1) H3 (nx + 3) B9 m13 := by rw [hB9]; exact O28.trans (FrO.put (by omega) (by omega) O28.fr _)
  have w29 := w28.mono (H' := B9) (fun c hc => by rw [hB9]; exact Tr.get_put_ne _ _ _ _ (by omega))
  have s29 := s28
  have g29 := g28
  have e10 := st_at (t := 3) (v := .lit (.int .i64 (numQ (numQ (flagQ (bytesQ (bytesQ (bytesQ (numQ (numQ (kindS (numQ (numQ (isQ wVerdict (spl l, false))).2).2).2).2).2).2).2).2).2).2).1)) (by kernel_rfl) p29 (o := 10) (by simp [recC]) rfl rfl
  obtain ⟨B10, hB10⟩ : ∃ B, B = B9.put (nx + 3) (some (.cells ((((((((((((recC Rec.zero).set 0 (.lit (.int .i64 (numQ (isQ wVerdict (spl l, false))).1))).set 1 (.lit (.int .i64 (numQ (numQ (isQ wVerdict (spl l, false))).2).1))).set 2 (.lit (.int .i64 (kindS (numQ (numQ (isQ wVerdict (spl l, false))).2).2).1))).set 3 (.lit (.int .i64 (numQ (kindS (numQ (numQ (isQ wVerdict (spl l, false))).2).2).2).1))).set 4 (.lit (.int .i64 (numQ (numQ (kindS (numQ (numQ (isQ wVerdict (spl l, false))).2).2).2).2).1))).set 5 (strA (bytesQ (numQ (numQ (kindS (numQ (numQ (isQ wVerdict (spl l, false))).2).2).2).2).2).1)).set 6 (strA (bytesQ (bytesQ (numQ (numQ (kindS (numQ (numQ (isQ wVerdict (spl l, false))).2).2).2).2).2).2).1)).set 7 (strA (bytesQ (bytesQ (bytesQ (numQ (numQ (kindS (numQ (numQ (isQ wVerdict (spl l, false))).2).2).2).2).2).2).2).1)).set 8 (.lit (.bool (flagQ (bytesQ (bytesQ (bytesQ (numQ (numQ (kindS (numQ (numQ (isQ wVerdict (spl l, false))).2).2).2).2).2).2).2).2).1))).set 9 (.lit (.int .i64 (numQ (flagQ (bytesQ (bytesQ (bytesQ (numQ (numQ (kindS (numQ (numQ (isQ wVerdict (spl l, false))).2).2).2).2).2).2).2).2).2).1))).set 10 (.lit (.int .i64 (numQ (numQ (flagQ (bytesQ (bytesQ (bytesQ (numQ (numQ (kindS (numQ (numQ (isQ wVerdict (spl l, false))).2).2).2).2).2).2).2).2).2).2).1))) 39 false)) := ⟨_, rfl⟩
  rw [← hB10] at e10
  have p30 : B10.get (nx + 3) = _ := (congrArg (fun X => Tr.get X (nx + 3)) hB10).trans (Tr.get_put_same _ _ _)
  have O30 : FrO (nx + 1) H3 (nx + 3) B10 m13 := by rw [hB10]; exact O29.trans (FrO.put (by omega) (by omega) O29.fr _)
  have w30 := w29.mono (H' := B10) (fun c hc => by rw [hB10]; exact Tr.get_put_ne _ _ _ _ (by omega))
  have s30 := s29
  have g30 := g29
  have e11 := st_at (t := 3) (v := .lit (.int .i64 (numQ (numQ (numQ (flagQ (bytesQ (bytesQ (bytesQ (numQ (numQ (kindS (numQ (numQ (isQ wVerdict (spl l, false))).2).2).2).2).2).2).2).2).2).2).2).1)) (by kernel_rfl) p30 (o := 11) (by simp [recC]) rfl rfl
  obtain ⟨B11, hB11⟩ : ∃ B, B = B10.put (nx + 3) (some (.cells (((((((((((((recC Rec.zero).set 0 (.lit (.int .i64 (numQ (isQ wVerdict (spl l, false))).1))).set 1 (.lit (.int .i64 (numQ (numQ (isQ wVerdict (spl l, false))).2).1))).set 2 (.lit (.int .i64 (kindS (numQ (numQ (isQ wVerdict (spl l, false))).2).2).1))).set 3 (.lit (.int .i64 (numQ (kindS (numQ (numQ (isQ wVerdict (spl l, false))).2).2).2).1))).set 4 (.lit (.int .i64 (numQ (numQ (kindS (numQ (numQ (isQ wVerdict (spl l, false))).2).2).2).2).1))).set 5 (strA (bytesQ (numQ (numQ (kindS (numQ (numQ (isQ wVerdict (spl l, false))).2).2).2).2).2).1)).set 6 (strA (bytesQ (bytesQ (numQ (numQ (kindS (numQ (numQ (isQ wVerdict (spl l, false))).2).2).2).2).2).2).1)).set 7 (strA (bytesQ (bytesQ (bytesQ (numQ (numQ (kindS (numQ (numQ (isQ wVerdict (spl l, false))).2).2).2).2).2).2).2).1)).set 8 (.lit (.bool (flagQ (bytesQ (bytesQ (bytesQ (numQ (numQ (kindS (numQ (numQ (isQ wVerdict (spl l, false))).2).2).2).2).2).2).2).2).1))).set 9 (.lit (.int .i64 (numQ (flagQ (bytesQ (bytesQ (bytesQ (numQ (numQ (kindS (numQ (numQ (isQ wVerdict (spl l, false))).2).2).2).2).2).2).2).2).2).1))).set 10 (.lit (.int .i64 (numQ (numQ (flagQ (bytesQ (bytesQ (bytesQ (numQ (numQ (kindS (numQ (numQ (isQ wVerdict (spl l, false))).2).2).2).2).2).2).2).2).2).2).1))).set 11 (.lit (.int .i64 (numQ (numQ (numQ (flagQ (bytesQ (bytesQ (bytesQ (numQ (numQ (kindS (numQ (numQ (isQ wVerdict (spl l, false))).2).2).2).2).2).2).2).2).2).2).2).1))) 39 false)) := ⟨_, rfl⟩
  rw [← hB11] at e11
  have p31 : B11.get (nx + 3) = _ := (congrArg (fun X => Tr.get X (nx + 3)) hB11).trans (Tr.get_put_same _ _ _)
  have O31 : FrO (nx + 1) H3 (nx + 3) B11 m13 := by rw [hB11]; exact O30.trans (FrO.put (by omega) (by omega) O30.fr _)
  have w31 := w30.mono (H' := B11) (fun c hc => by rw [hB11]; exact Tr.get_put_ne _ _ _ _ (by omega))
  have s31 := s30
  have g31 := g30
  have e12 := st_at (t := 3) (v := .lit (.int .i64 (numQ (numQ (numQ (numQ (flagQ (bytesQ (bytesQ (bytesQ (numQ (numQ (kindS (numQ (numQ (isQ wVerdict (spl l, false))).2).2).2).2).2).2).2).2).2).2).2).2).1)) (by kernel_rfl) p31 (o := 12) (by simp [recC]) rfl rfl
  obtain ⟨B12, hB12⟩ : ∃ B, B = B11.put (nx + 3) (some (.cells ((((((((((((((recC Rec.zero).set 0 (.lit (.int .i64 (numQ (isQ wVerdict (spl l, false))).1))).set 1 (.lit (.int .i64 (numQ (numQ (isQ wVerdict (spl l, false))).2).1))).set 2 (.lit (.int .i64 (kindS (numQ (numQ (isQ wVerdict (spl l, false))).2).2).1))).set 3 (.lit (.int .i64 (numQ (kindS (numQ (numQ (isQ wVerdict (spl l, false))).2).2).2).1))).set 4 (.lit (.int .i64 (numQ (numQ (kindS (numQ (numQ (isQ wVerdict (spl l, false))).2).2).2).2).1))).set 5 (strA (bytesQ (numQ (numQ (kindS (numQ (numQ (isQ wVerdict (spl l, false))).2).2).2).2).2).1)).set 6 (strA (bytesQ (bytesQ (numQ (numQ (kindS (numQ (numQ (isQ wVerdict (spl l, false))).2).2).2).2).2).2).1)).set 7 (strA (bytesQ (bytesQ (bytesQ (numQ (numQ (kindS (numQ (numQ (isQ wVerdict (spl l, false))).2).2).2).2).2).2).2).1)).set 8 (.lit (.bool (flagQ (bytesQ (bytesQ (bytesQ (numQ (numQ (kindS (numQ (numQ (isQ wVerdict (spl l, false))).2).2).2).2).2).2).2).2).1))).set 9 (.lit (.int .i64 (numQ (flagQ (bytesQ (bytesQ (bytesQ (numQ (numQ (kindS (numQ (numQ (isQ wVerdict (spl l, false))).2).2).2).2).2).2).2).2).2).1))).set 10 (.lit (.int .i64 (numQ (numQ (flagQ (bytesQ (bytesQ (bytesQ (numQ (numQ (kindS (numQ (numQ (isQ wVerdict (spl l, false))).2).2).2).2).2).2).2).2).2).2).1))).set 11 (.lit (.int .i64 (numQ (numQ (numQ (flagQ (bytesQ (bytesQ (bytesQ (numQ (numQ (kindS (numQ (numQ (isQ wVerdict (spl l, false))).2).2).2).2).2).2).2).2).2).2).2).1))).set 12 (.lit (.int .i64 (numQ (numQ (numQ (numQ (flagQ (bytesQ (bytesQ (bytesQ (numQ (numQ (kindS (numQ (numQ (isQ wVerdict (spl l, false))).2).2).2).2).2).2).2).2).2).2).2).2).1))) 39 false)) := ⟨_, rfl⟩
  rw [← hB12] at e12
  have p32 : B12.get (nx + 3) = _ := (congrArg (fun X => Tr.get X (nx + 3)) hB12).trans (Tr.get_put_same _ _ _)
  have O32 : FrO (nx + 1) H3 (nx + 3) B12 m13 := by rw [hB12]; exact O31.trans (FrO.put (by omega) (by omega) O31.fr _)
  have w32 := w31.mono (H' := B12) (fun c hc => by rw [hB12]; exact Tr.get_put_ne _ _ _ _ (by omega))
  have s32 := s31
  have g32 := g31
  have e13 := st_at (t := 3) (v := .lit (.int .i64 (numQ (numQ (numQ (numQ (numQ (flagQ (bytesQ (bytesQ (bytesQ (numQ (numQ (kindS (numQ (numQ (isQ wVerdict (spl l, false))).2).2).2).2).2).2).2).2).2).2).2).2).2).1)) (by kernel_rfl) p32 (o := 13) (by simp [recC]) rfl rfl
  obtain ⟨B13, hB13⟩ : ∃ B, B = B12.put (nx + 3) (some (.cells (((((((((((((((recC Rec.zero).set 0 (.lit (.int .i64 (numQ (isQ wVerdict (spl l, false))).1))).set 1 (.lit (.int .i64 (numQ (numQ (isQ wVerdict (spl l, false))).2).1))).set 2 (.lit (.int .i64 (kindS (numQ (numQ (isQ wVerdict (spl l, false))).2).2).1))).set 3 (.lit (.int .i64 (numQ (kindS (numQ (numQ (isQ wVerdict (spl l, false))).2).2).2).1))).set 4 (.lit (.int .i64 (numQ (numQ (kindS (numQ (numQ (isQ wVerdict (spl l, false))).2).2).2).2).1))).set 5 (strA (bytesQ (numQ (numQ (kindS (numQ (numQ (isQ wVerdict (spl l, false))).2).2).2).2).2).1)).set 6 (strA (bytesQ (bytesQ (numQ (numQ (kindS (numQ (numQ (isQ wVerdict (spl l, false))).2).2).2).2).2).2).1)).set 7 (strA (bytesQ (bytesQ (bytesQ (numQ (numQ (kindS (numQ (numQ (isQ wVerdict (spl l, false))).2).2).2).2).2).2).2).1)).set 8 (.lit (.bool (flagQ (bytesQ (bytesQ (bytesQ (numQ (numQ (kindS (numQ (numQ (isQ wVerdict (spl l, false))).2).2).2).2).2).2).2).2).1))).set 9 (.lit (.int .i64 (numQ (flagQ (bytesQ (bytesQ (bytesQ (numQ (numQ (kindS (numQ (numQ (isQ wVerdict (spl l, false))).2).2).2).2).2).2).2).2).2).1))).set 10 (.lit (.int .i64 (numQ (numQ (flagQ (bytesQ (bytesQ (bytesQ (numQ (numQ (kindS (numQ (numQ (isQ wVerdict (spl l, false))).2).2).2).2).2).2).2).2).2).2).1))).set 11 (.lit (.int .i64 (numQ (numQ (numQ (flagQ (bytesQ (bytesQ (bytesQ (numQ (numQ (kindS (numQ (numQ (isQ wVerdict (spl l, false))).2).2).2).2).2).2).2).2).2).2).2).1))).set 12 (.lit (.int .i64 (numQ (numQ (numQ (numQ (flagQ (bytesQ (bytesQ (bytesQ (numQ (numQ (kindS (numQ (numQ (isQ wVerdict (spl l, false))).2).2).2).2).2).2).2).2).2).2).2).2).1))).set 13 (.lit (.int .i64 (numQ (numQ (numQ (numQ (numQ (flagQ (bytesQ (bytesQ (bytesQ (numQ (numQ (kindS (numQ (numQ (isQ wVerdict (spl l, false))).2).2).2).2).2).2).2).2).2).2).2).2).2).1))) 39 false)) := ⟨_, rfl⟩
  rw [← hB13] at e13
  have p33 : B13.get (nx + 3) = _ := (congrArg (fun X => Tr.get X (nx + 3)) hB13).trans (Tr.get_put_same _ _ _)
  have O33 : FrO (nx + 1) H3 (nx + 3) B13 m13 := by rw [hB13]; exact O32.trans (FrO.put (by omega) (by omega) O32.fr _)
  have w33 := w32.mono (H' := B13) (fun c hc => by rw [hB13]; exact Tr.get_put_ne _ _ _ _ (by omega))
  have s33 := s32
  have g33 := g32
  have hrc : (((((((((((((((recC Rec.zero).set 0 (.lit (.int .i64 (numQ (isQ wVerdict (spl l, false))).1))).set 1 (.lit (.int .i64 (numQ (numQ (isQ wVerdict (spl l, false))).2).1))).set 2 (.lit (.int .i64 (kindS (numQ (numQ (isQ wVerdict (spl l, false))).2).2).1))).set 3 (.lit (.int .i64 (numQ (kindS (numQ (numQ (isQ wVerdict (spl l, false))).2).2).2).1))).set 4 (.lit (.int .i64 (numQ (numQ (kindS (numQ (numQ (isQ wVerdict (spl l, false))).2).2).2).2).1))).set 5 (strA (bytesQ (numQ (numQ (kindS (numQ (numQ (isQ wVerdict (spl l, false))).2).2).2).2).2).1)).set 6 (strA (bytesQ (bytesQ (numQ (numQ (kindS (numQ (numQ (isQ wVerdict (spl l, false))).2).2).2).2).2).2).1)).set 7 (strA (bytesQ (bytesQ (bytesQ (numQ (numQ (kindS (numQ (numQ (isQ wVerdict (spl l, false))).2).2).2).2).2).2).2).1)).set 8 (.lit (.bool (flagQ (bytesQ (bytesQ (bytesQ (numQ (numQ (kindS (numQ (numQ (isQ wVerdict (spl l, false))).2).2).2).2).2).2).2).2).1))).set 9 (.lit (.int .i64 (numQ (flagQ (bytesQ (bytesQ (bytesQ (numQ (numQ (kindS (numQ (numQ (isQ wVerdict (spl l, false))).2).2).2).2).2).2).2).2).2).1))).set 10 (.lit (.int .i64 (numQ (numQ (flagQ (bytesQ (bytesQ (bytesQ (numQ (numQ (kindS (numQ (numQ (isQ wVerdict (spl l, false))).2).2).2).2).2).2).2).2).2).2).1))).set 11 (.lit (.int .i64 (numQ (numQ (numQ (flagQ (bytesQ (bytesQ (bytesQ (numQ (numQ (kindS (numQ (numQ (isQ wVerdict (spl l, false))).2).2).2).2).2).2).2).2).2).2).2).1))).set 12 (.lit (.int .i64 (numQ (numQ (numQ (numQ (flagQ (bytesQ (bytesQ (bytesQ (numQ (numQ (kindS (numQ (numQ (isQ wVerdict (spl l, false))).2).2).2).2).2).2).2).2).2).2).2).2).1))).set 13 (.lit (.int .i64 (numQ (numQ (numQ (numQ (numQ (flagQ (bytesQ (bytesQ (bytesQ (numQ (numQ (kindS (numQ (numQ (isQ wVerdict (spl l, false))).2).2).2).2).2).2).2).2).2).2).2).2).2).1))) = recC (run (spl l)).rcd := rfl
  rw [hrc] at p33
  have d1 := done_cl (nx := m13) w33
  have hla := ld_all (t := 39) (by kernel_rfl) p33
  obtain ⟨Ht, mt, t1, t2⟩ := told_cl (nx := m13) (run (spl l)).rcd O33.fr
  have hq : doneQ (numQ (numQ (numQ (numQ (numQ (flagQ (bytesQ (bytesQ (bytesQ (numQ (numQ (kindS (numQ (numQ (isQ wVerdict (spl l, false))).2).2).2).2).2).2).2).2).2).2).2).2).2).2 = doneQ (run (spl l)).q14.2 := rfl
  rw [hq] at d1
  have z : B13.get nx = some (.cells (recC Rec.zero) 39 false) := by
    rw [O33.old nx (by omega), o3 nx (by omega)]; exact Tr.get_put_same _ _ _
  have frame : ∀ (K : Heap) (m : Nat) (ob : Option AObj), Fr B13 m13 K m → Fr H nx (K.put nx ob) m := fun K m ob hK => by
    refine ⟨by have := hK.le; omega, fun c hc => ?_, fun b hb => ?_⟩
    · rw [Tr.get_put_ne _ _ _ _ (by omega), hK.old c (by omega), O33.old c (by omega), o3 c (by omega), Tr.get_put_ne _ _ _ _ (by omega)]
    · rw [Tr.get_put_ne _ _ _ _ (by have := hK.le; omega)]; exact hK.fr b hb
  have sz := st_all (t := 39) (vs := recC Rec.zero) (by kernel_rfl) z rfl rfl
  have lz := ld_all (H := B13.put nx (some (.cells (recC Rec.zero) 39 false))) (t := 39) (cs := recC Rec.zero) (by kernel_rfl) (Tr.get_put_same _ _ _)
  by_cases hd : doneQ (run (spl l)).q14.2 = true
  · rw [hd] at d1
    have z7 : Ht.get nx = _ := (t2.old nx (by omega)).trans z
    have hla7 := ld_all (H := Ht) (t := 39) (by kernel_rfl) ((t2.old (nx + 3) (by omega)).trans p33)
    by_cases ht : (run (spl l)).rcd.told
    · have hdt : decide (run (spl l)).rcd.told = true := by simpa using ht
      rw [hdt] at t1
      have hr : readR l = some (run (spl l)).rcd := by unfold readR; rw [if_pos ⟨hd, ht⟩]
      have s7 := st_all (t := 39) (vs := recC (run (spl l)).rcd) (by kernel_rfl) z7 rfl rfl
      have l7 := ld_all (H := Ht.put nx (some (.cells (recC (run (spl l)).rcd) 39 false))) (t := 39) (cs := recC (run (spl l)).rcd) (by kernel_rfl) (Tr.get_put_same _ _ _)
      rw [hr]
      simp only [↓aD, ↓aE, ↓aF, ↓aG, ↓aH, ↓aI, ↓aJ, ↓aK, aL, ↓aM, ↓aN, aO, stepA, opA, convA, isCall, put?, ev, aA, aQ, builtinA, callA, argEnv, wantedS, aR, aS, aT, aU, aV, aW, aX, aY, undef, z_none, bA, bB, bC, bD, bH, bI, extractOp, bK, bL, bM, bN, Nat.reduceLT, Nat.reduceEqDiff, Nat.reduceAdd, bR, bS, ↓reduceIte, reduceCtorEq, resA, resOf, cB, maxA, minA, x_none, al39, a1, bdw (.lit .nilIface), bxw, partsA, ← hH3, lit_verdict, b1, fa39_0, fa39_1, fa39_2, fa39_3, fa39_4, fa39_5, fa39_6, fa39_7, fa39_8, fa39_9, fa39_10, fa39_11, fa39_12, fa39_13, c0, c1, c2, c3, c4, c5, c6, c7, c8, c9, c10, c11, c12, c13, e0, e1, e2, e3, e4, e5, e6, e7, e8, e9, e10, e11, e12, e13, d1, hla, t1, hla7, s7, l7, Option.bind_some, Option.isSome_some]
      exact frame _ _ _ t2
    · have hdt : decide (run (spl l)).rcd.told = false := by simpa using ht
      rw [hdt] at t1
      have hr : readR l = none := by unfold readR; rw [if_neg (fun h => ht h.2)]
      have s7 := st_all (t := 39) (vs := recC Rec.zero) (by kernel_rfl) z7 rfl rfl
      have l7 := ld_all (H := Ht.put nx (some (.cells (recC Rec.zero) 39 false))) (t := 39) (cs := recC Rec.zero) (by kernel_rfl) (Tr.get_put_same _ _ _)
      rw [hr]
      simp only [↓aD, ↓aE, ↓aF, ↓aG, ↓aH, ↓aI, ↓aJ, ↓aK, aL, ↓aM, ↓aN, aO, stepA, opA, convA, isCall, put?, ev, aA, aQ, builtinA, callA, argEnv, wantedS, aR, aS, aT, aU, aV, aW, aX, aY, undef, z_none, bA, bB, bC, bD, bH, bI, extractOp, bK, bL, bM, bN, Nat.reduceLT, Nat.reduceEqDiff, Nat.reduceAdd, bR, bS, ↓reduceIte, reduceCtorEq, resA, resOf, cB, maxA, minA, x_none, al39, a1, bdw (.lit .nilIface), bxw, partsA, ← hH3, lit_verdict, b1, fa39_0, fa39_1, fa39_2, fa39_3, fa39_4, fa39_5, fa39_6, fa39_7, fa39_8, fa39_9, fa39_10, fa39_11, fa39_12, fa39_13, c0, c1, c2, c3, c4, c5, c6, c7, c8, c9, c10, c11, c12, c13, e0, e1, e2, e3, e4, e5, e6, e7, e8, e9, e10, e11, e12, e13, d1, hla, t1, bd39, s7, l7, Option.bind_some, Option.isSome_none]
      exact frame _ _ _ t2
  · have hdf : doneQ (run (spl l)).q14.2 = false := by simpa using hd
    rw [hdf] at d1
    have hr : readR l = none := by unfold readR; rw [if_neg (fun h => hd h.1)]
    rw [hr]
    simp only [↓aD, ↓aE, ↓aF, ↓aG, ↓aH, ↓aI, ↓aJ, ↓aK, aL, ↓aM, ↓aN, aO, stepA, opA, convA, isCall, put?, ev, aA, aQ, builtinA, callA, argEnv, wantedS, aR, aS, aT, aU, aV, aW, aX, aY, undef, z_none, bA, bB, bC, bD, bH, bI, extractOp, bK, bL, bM, bN, Nat.reduceLT, Nat.reduceEqDiff, Nat.reduceAdd, bR, bS, ↓reduceIte, reduceCtorEq, resA, resOf, cB, maxA, minA, x_none, al39, a1, bdw (.lit .nilIface), bxw, partsA, ← hH3, lit_verdict, b1, fa39_0, fa39_1, fa39_2, fa39_3, fa39_4, fa39_5, fa39_6, fa39_7, fa39_8, fa39_9, fa39_10, fa39_11, fa39_12, fa39_13, c0, c1, c2, c3, c4, c5, c6, c7, c8, c9, c10, c11, c12, c13, e0, e1, e2, e3, e4, e5, e6, e7, e8, e9, e10, e11, e12, e13, d1, bd39, sz, lz, Option.bind_some, Option.isSome_none]
    exact frame _ _ _ (Fr.refl O33.fr)
end Seat
end CI
