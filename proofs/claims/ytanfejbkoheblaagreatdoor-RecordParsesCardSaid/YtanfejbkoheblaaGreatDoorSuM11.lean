/- Parts of the proof: Rur0 Rur1 Rur2 Rur3 Rur4 Rur5 Rur6 Ruz Pw. -/
import Derived.Test.YtanfejbkoheblaaGreatDoorSuRud
import Derived.Test.YtanfejbkoheblaaGreatDoorSuM8
set_option linter.unusedVariables false
set_option maxRecDepth 100000
namespace CI
open Go Go.Proofs
namespace Seat
theorem sm0_run : smCheck sm0 [128, 131, 138, 143, 146] (callF cx0 4000 sm0.k sm0.args sm0.heap sm0.n0) = true := by kernel_rfl
theorem sm1_run : smCheck sm1 [8, 17, 37, 38, 40, 51, 58] (callF cx0 4000 sm1.k sm1.args sm1.heap sm1.n0) = true := by kernel_rfl
theorem sm2_run : smCheck sm2 [5, 6, 7, 8, 9, 10, 11, 12, 14, 16, 20, 26, 27, 30] (callF (cxTab cx0 [122] [sm1]) 4000 sm2.k sm2.args sm2.heap sm2.n0) = true := by kernel_rfl
theorem sm3_run : smCheck sm3 [5, 6, 7, 8, 9, 10, 11, 12, 13, 14, 15, 16, 17, 18] (callF (cxTab cx0 [57, 58] [sm0, sm2]) 4000 sm3.k sm3.args sm3.heap sm3.n0) = true := by kernel_rfl
end Seat
end CI
namespace CI
open Go Go.Proofs
namespace Seat
theorem sm4_run : smCheck sm4 [29] (callF cx0 4000 sm4.k sm4.args sm4.heap sm4.n0) = true := by kernel_rfl
theorem sm5_run : smCheck sm5 [19, 20, 27, 31] (callF cx0 4000 sm5.k sm5.args sm5.heap sm5.n0) = true := by kernel_rfl
theorem sm6_run : smCheck sm6 [28, 85, 86, 88] (callF cx0 4000 sm6.k sm6.args sm6.heap sm6.n0) = true := by kernel_rfl
theorem sm7_run : smCheck sm7 [] (callF cx0 4000 sm7.k sm7.args sm7.heap sm7.n0) = true := by kernel_rfl
end Seat
end CI
namespace CI
open Go Go.Proofs
namespace Seat
theorem sm8_run : smCheck sm8 [] (callF cx0 4000 sm8.k sm8.args sm8.heap sm8.n0) = true := by kernel_rfl
theorem sm9_run : smCheck sm9 [14, 15, 16, 17, 18, 19, 20, 21, 22, 23, 24, 25, 26] (callF (cxTab cx0 [97, 98, 99, 100, 101] [sm4, sm5, sm6, sm7, sm8]) 4000 sm9.k sm9.args sm9.heap sm9.n0) = true := by kernel_rfl
theorem sm10_run : smCheck sm10 [31] (callF (cxTab cx0 [49] [sm9]) 4000 sm10.k sm10.args sm10.heap sm10.n0) = true := by kernel_rfl
theorem sm11_run : smCheck sm11 [] (callF cx0 4000 sm11.k sm11.args sm11.heap sm11.n0) = true := by kernel_rfl
end Seat
end CI
namespace CI
open Go Go.Proofs
namespace Seat
theorem sm12_run : smCheck sm12 [] (callF cx0 4000 sm12.k sm12.args sm12.heap sm12.n0) = true := by kernel_rfl
theorem sm13_run : smCheck sm13 [] (callF (cxTab cx0 [240, 241] [sm11, sm12]) 4000 sm13.k sm13.args sm13.heap sm13.n0) = true := by kernel_rfl
theorem sm14_run : smCheck sm14 [] (callF (cxTab cx0 [15, 49, 182] [sm9, sm10, sm13]) 4000 sm14.k sm14.args sm14.heap sm14.n0) = true := by kernel_rfl
theorem sm15_run : smCheck sm15 [15] (callF cx0 4000 sm15.k sm15.args sm15.heap sm15.n0) = true := by kernel_rfl
end Seat
end CI
namespace CI
open Go Go.Proofs
namespace Seat
theorem sm16_run : smCheck sm16 [] (callF (cxTab cx0 [245] [sm15]) 4000 sm16.k sm16.args sm16.heap sm16.n0) = true := by kernel_rfl
theorem sm17_run : smCheck sm17 [44] (callF (cxTab cx0 [184] [sm16]) 4000 sm17.k sm17.args sm17.heap sm17.n0) = true := by kernel_rfl
theorem sm18_run : smCheck sm18 [] (callF cx0 4000 sm18.k sm18.args sm18.heap sm18.n0) = true := by kernel_rfl
theorem sm19_run : smCheck sm19 [] (callF cx0 4000 sm19.k sm19.args sm19.heap sm19.n0) = true := by kernel_rfl
end Seat
end CI
namespace CI
open Go Go.Proofs
namespace Seat
theorem ch20_0 : isSeq bd330 = true := by kernel_rfl
theorem ch20_1 : codeOK (sqL bd330) = true := by kernel_rfl
theorem ch20_2 : exlB cx0 4000 sm20.n0 40 (sqL bd330) ⟨argEnv sm20.args, sm20.heap, sm20.n0⟩ .normal ls20_0 = true := by kernel_rfl
theorem ch20_3 : isSeq (sqR bd330) = true := by kernel_rfl
theorem ch20_4 : codeOK (sqL (sqR bd330)) = true := by kernel_rfl
theorem ch20_5 : exlB cx0 4000 sm20.n0 40 (sqL (sqR bd330)) ls20_0.st .normal ls20_1 = true := by kernel_rfl
theorem ch20_6 : isSeq (sqR (sqR bd330)) = true := by kernel_rfl
theorem ch20_7 : isSeq (sqL (sqR (sqR bd330))) = true := by kernel_rfl
theorem ch20_8 : codeOK (sqL (sqL (sqR (sqR bd330)))) = true := by kernel_rfl
theorem ch20_9 : exlB cx0 4000 sm20.n0 40 (sqL (sqL (sqR (sqR bd330)))) ls20_1.st .normal ls20_2 = true := by kernel_rfl
theorem ch20_10 : (isBl 0 (sqR (sqL (sqR (sqR bd330)))) && isLp (blB (sqR (sqL (sqR (sqR bd330))))) && codeOK (lpB (blB (sqR (sqL (sqR (sqR bd330))))))) = true := by kernel_rfl
theorem ch20_11 : itB cx0 4000 sm20.n0 40 (lpB (blB (sqR (sqL (sqR (sqR bd330)))))) 64 ls20_2.st ls20_3 = true := by kernel_rfl
theorem ch20_12 : itB cx0 4000 sm20.n0 40 (lpB (blB (sqR (sqL (sqR (sqR bd330)))))) 64 ls20_3.st ls20_4 = true := by kernel_rfl
theorem ch20_13 : itB cx0 4000 sm20.n0 40 (lpB (blB (sqR (sqL (sqR (sqR bd330)))))) 64 ls20_4.st ls20_5 = true := by kernel_rfl
theorem ch20_14 : itB cx0 4000 sm20.n0 40 (lpB (blB (sqR (sqL (sqR (sqR bd330)))))) 64 ls20_5.st ls20_6 = true := by kernel_rfl
theorem ch20_15 : exlB cx0 4000 sm20.n0 40 (lpB (blB (sqR (sqL (sqR (sqR bd330)))))) ls20_6.st (.exit 0) ls20_7 = true := by kernel_rfl
theorem ch20_16 : isSeq (sqR (sqR (sqR bd330))) = true := by kernel_rfl
theorem ch20_17 : codeOK (sqL (sqR (sqR (sqR bd330)))) = true := by kernel_rfl
theorem ch20_18 : exlB cx0 4000 sm20.n0 40 (sqL (sqR (sqR (sqR bd330)))) ls20_7.st .normal ls20_8 = true := by kernel_rfl
theorem ch20_19 : codeOK (sqR (sqR (sqR (sqR bd330)))) = true := by kernel_rfl
theorem ch20_20 : exlB cx0 4000 sm20.n0 40 (sqR (sqR (sqR (sqR bd330)))) ls20_8.st .ret ls20_9 = true := by kernel_rfl
theorem ch20_21 : endB cx0 sm20 [1, 2] Tryz.f330.results.toList ls20_9 = true := by kernel_rfl
theorem sm21_run : smCheck sm21 [4, 5] (callF (cxTab cx0 [329, 330] [sm18, sm19, sm20]) 4000 sm21.k sm21.args sm21.heap sm21.n0) = true := by kernel_rfl
theorem sm22_run : smCheck sm22 [] (callF (cxTab cx0 [252] [sm21]) 4000 sm22.k sm22.args sm22.heap sm22.n0) = true := by kernel_rfl
theorem sm23_run : smCheck sm23 [] (callF (cxTab cx0 [184, 185, 186] [sm16, sm17, sm22]) 4000 sm23.k sm23.args sm23.heap sm23.n0) = true := by kernel_rfl
end Seat
end CI
namespace CI
open Go Go.Proofs
namespace Seat
theorem sm24_run : smCheck sm24 [] (callF (cxTab cx0 [15, 22, 49, 129, 130] [sm3, sm9, sm10, sm14, sm23]) 4000 sm24.k sm24.args sm24.heap sm24.n0) = true := by kernel_rfl
theorem sm25_run : smCheck sm25 [] (callF cx0 4000 sm25.k sm25.args sm25.heap sm25.n0) = true := by kernel_rfl
end Seat
end CI
namespace CI
open Go Go.Proofs
namespace Seat
theorem sm0_ok : CallOK cx0 (smCall sm0) := sm_ok sound0 sm0_run rfl
theorem sm1_ok : CallOK cx0 (smCall sm1) := sm_ok sound0 sm1_run rfl
theorem sm2_ok : CallOK cx0 (smCall sm2) := sm_ok (cxTab_sound sound0 (tab_cons sm1_ok tab_nil)) sm2_run rfl
theorem sm3_ok : CallOK cx0 (smCall sm3) := sm_ok (cxTab_sound sound0 (tab_cons sm0_ok (tab_cons sm2_ok tab_nil))) sm3_run rfl
theorem sm4_ok : CallOK cx0 (smCall sm4) := sm_ok sound0 sm4_run rfl
theorem sm5_ok : CallOK cx0 (smCall sm5) := sm_ok sound0 sm5_run rfl
theorem sm6_ok : CallOK cx0 (smCall sm6) := sm_ok sound0 sm6_run rfl
theorem sm7_ok : CallOK cx0 (smCall sm7) := sm_ok sound0 sm7_run rfl
theorem sm8_ok : CallOK cx0 (smCall sm8) := sm_ok sound0 sm8_run rfl
theorem sm9_ok : CallOK cx0 (smCall sm9) := sm_ok (cxTab_sound sound0 (tab_cons sm4_ok (tab_cons sm5_ok (tab_cons sm6_ok (tab_cons sm7_ok (tab_cons sm8_ok tab_nil)))))) sm9_run rfl
theorem sm10_ok : CallOK cx0 (smCall sm10) := sm_ok (cxTab_sound sound0 (tab_cons sm9_ok tab_nil)) sm10_run rfl
theorem sm11_ok : CallOK cx0 (smCall sm11) := sm_ok sound0 sm11_run rfl
theorem sm12_ok : CallOK cx0 (smCall sm12) := sm_ok sound0 sm12_run rfl
theorem sm13_ok : CallOK cx0 (smCall sm13) := sm_ok (cxTab_sound sound0 (tab_cons sm11_ok (tab_cons sm12_ok tab_nil))) sm13_run rfl
theorem sm14_ok : CallOK cx0 (smCall sm14) := sm_ok (cxTab_sound sound0 (tab_cons sm9_ok (tab_cons sm10_ok (tab_cons sm13_ok tab_nil)))) sm14_run rfl
theorem sm15_ok : CallOK cx0 (smCall sm15) := sm_ok sound0 sm15_run rfl
theorem sm16_ok : CallOK cx0 (smCall sm16) := sm_ok (cxTab_sound sound0 (tab_cons sm15_ok tab_nil)) sm16_run rfl
theorem sm17_ok : CallOK cx0 (smCall sm17) := sm_ok (cxTab_sound sound0 (tab_cons sm16_ok tab_nil)) sm17_run rfl
theorem sm18_ok : CallOK cx0 (smCall sm18) := sm_ok sound0 sm18_run rfl
theorem sm19_ok : CallOK cx0 (smCall sm19) := sm_ok sound0 sm19_run rfl
theorem sm20_ok : CallOK cx0 (smCall sm20) := smR_ok (C := cx0) (fn := Tryz.f330) (body := bd330) sound0 Tryz.func330 (by kernel_rfl) (by kernel_rfl) (by decide) (Rn.seq' (C := cx0) ch20_0 (Rn.leaf (C := cx0) ch20_1 ch20_2) (Rn.seq' (C := cx0) ch20_3 (Rn.leaf (C := cx0) ch20_4 ch20_5) (Rn.seq' (C := cx0) ch20_6 (Rn.seq' (C := cx0) ch20_7 (Rn.leaf (C := cx0) ch20_8 ch20_9) (Rn.loopEnd (C := cx0) ch20_10 ch20_15 (fun se r => (LoopN.more ch20_11 (LoopN.more ch20_12 (LoopN.more ch20_13 (LoopN.more ch20_14 r))))))) (Rn.seq' (C := cx0) ch20_16 (Rn.leaf (C := cx0) ch20_17 ch20_18) (Rn.leaf (C := cx0) ch20_19 ch20_20))))) (.inr rfl) ch20_21 rfl
theorem sm21_ok : CallOK cx0 (smCall sm21) := sm_ok (cxTab_sound sound0 (tab_cons sm18_ok (tab_cons sm19_ok (tab_cons sm20_ok tab_nil)))) sm21_run rfl
theorem sm22_ok : CallOK cx0 (smCall sm22) := sm_ok (cxTab_sound sound0 (tab_cons sm21_ok tab_nil)) sm22_run rfl
theorem sm23_ok : CallOK cx0 (smCall sm23) := sm_ok (cxTab_sound sound0 (tab_cons sm16_ok (tab_cons sm17_ok (tab_cons sm22_ok tab_nil)))) sm23_run rfl
theorem sm24_ok : CallOK cx0 (smCall sm24) := sm_ok (cxTab_sound sound0 (tab_cons sm3_ok (tab_cons sm9_ok (tab_cons sm10_ok (tab_cons sm14_ok (tab_cons sm23_ok tab_nil)))))) sm24_run rfl
theorem sm25_ok : CallOK cx0 (smCall sm25) := sm_ok sound0 sm25_run rfl
noncomputable def cxT : Cx := (cxTab cx0 [23, 35] [sm24, sm25])
theorem soundT : cxT.Sound := (cxTab_sound sound0 (tab_cons sm24_ok (tab_cons sm25_ok tab_nil)))
end Seat
end CI
namespace CI
open Go Go.Proofs
namespace Seat
theorem awakeR : (callN cxT 4000 34 [] .nil 0).map (·.1) = some (.lit (.bool true)) := by rw [← callF_eq]; kernel_rfl
noncomputable def sums : Tr Value := (Tr.nil).put 34 (some (.bool true))
theorem sums_ok : ∀ f u, sums.get f = some u → ∃ n H' nx', callN cxT n f [] .nil 0 = some (.lit u, H', nx') := fun f u h => by
  simp only [sums, Tr.get_put, Tr.get_nil] at h
  split at h
  · rename_i hf; subst hf; injection h with h; subst h
    have := awakeR
    simp only [Option.map_eq_some_iff] at this
    obtain ⟨⟨v, H', nx'⟩, h1, h2⟩ := this
    simp only at h2; subst h2
    exact ⟨4000, H', nx', h1⟩
  · cases h
noncomputable def cx : Cx := ⟨Tryz.prog, types, funcs, extX4 Tryz.prog exts sums idents cons, yb, mzA 343 5⟩
theorem sound : cx.Sound where
  types := types_ok
  funs := fun k fn h => ⟨funcs_ok k fn h, fnOK_name (codes_ok k fn h)⟩
  exts := fun f args v h σ w xs hg hv => extX4_ok soundT exts_ok sums_ok idents_ok cons_ok h σ w xs hg hv
  mixed := mixed
  zs := fun k args H nx v H' nx' h σ w xs hx g => mzA_ok mz_ok h σ w xs hx g
  ys := fun k args H nx v H' nx' h => yb_ok k args H nx v H' nx' h
  codes := fun k fn c h hb => fnOK_code (codes_ok k fn h) hb
end Seat
end CI
