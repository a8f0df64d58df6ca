/- Parts of the proof: Civ Cvs Cvt Brep Bv Csr Bsor. -/
import Derived.Test.YtanfejbkoheblaaGreatDoorSuM3
import Derived.Laws.Externs
import Derived.Lib.Builder
import Derived.Test.YtanfejbkoheblaaGreatDoorSuCk
import Derived.Test.YtanfejbkoheblaaGreatDoorSuM4
import Derived.Test.YtanfejbkoheblaaGreatDoorChecked
import Derived.KernelRfl
import Derived.Lib.AppendIntMem
import Derived.Lib.SmallJoins
import Derived.Shelf.SlIterI.Nil
import Derived.Maps.OwnSet
set_option linter.unusedVariables false
set_option linter.unusedSimpArgs false
noncomputable section
namespace CI
open Go
def extX (P : Program) (E : Tr (Array Value → Sem Value)) (f : FuncId) (args : List AV) : Option AV :=
  match E.get f, plains args with
  | some e, some xs => (pureRun P (e xs.toArray)).map abs
  | _, _ => none
def ExtFact (P : Program) (f : Nat) (e : Array Value → Sem Value) : Prop :=
  ∃ fn, P.funcs[f]? = some fn ∧ (fn.name == "runtime.NumGoroutine") = false ∧ fn.body.isNone = true ∧ Extern.findNext fn = none ∧ Extern.find fn = some e
theorem extX_ok {P : Program} {E : Tr (Array Value → Sem Value)} (h : ∀ f e, E.get f = some e → ExtFact P f e) {f : FuncId} {args : List AV} {v : AV} (hx : extX P E f args = some v)
    (σ : Sig) (w : World) (xs : List Value) (hv : VRs σ args xs) : ∃ x, (callFunc f xs.toArray).run P w = .ok (.value x) w ∧ VR σ v x := by
  unfold extX at hx
  split at hx
  · rename_i e ys he hp
    simp only [Option.map_eq_some_iff] at hx
    obtain ⟨y, hy, rfl⟩ := hx
    obtain ⟨fn, h1, h2, h3, h4, h5⟩ := h f e he
    have := plains_eq hp hv
    subst this
    refine ⟨y, ?_, abs_VR σ y⟩
    rw [run_callFunc_extern h1 h2 h3 h4 h5, pureRun_ok w hy]
    rfl
  · cases hx
def extX2 (P : Program) (E : Tr (Array Value → Sem Value)) (S : Tr Value) (f : FuncId) (args : List AV) : Option AV :=
  match extX P E f args with
  | some v => some v
  | none => if args.isEmpty then (S.get f).map .lit else none
theorem extX2_ok {C : Cx} (hC : C.Sound) {E : Tr (Array Value → Sem Value)} {S : Tr Value} (h : ∀ f e, E.get f = some e → ExtFact C.P f e) (hS : ∀ f u, S.get f = some u → ∃ n H' nx', callN C n f [] .nil 0 = some (.lit u, H', nx'))
    {f : FuncId} {args : List AV} {v : AV} (hx : extX2 C.P E S f args = some v)
    (σ : Sig) (w : World) (xs : List Value) (hg : Glb w) (hv : VRs σ args xs) : (∃ x, (callFunc f xs.toArray).run C.P w = .ok (.value x) w ∧ VR σ v x) ∨
    ((callFunc f xs.toArray).run C.P w = .ok (.enter f xs.toArray) w ∧ Calls C.P f xs.toArray w fun e w' => ∃ x, e = .returned x ∧ VR σ v x ∧ RowKit.Below w.heap.size w w') := by
  unfold extX2 at hx
  split at hx
  · rename_i u he
    injection hx with hx; subst hx
    exact .inl (extX_ok h he σ w xs hv)
  · split at hx
    · rename_i ha
      simp only [List.isEmpty_iff] at ha
      subst ha
      simp only [Option.map_eq_some_iff] at hx
      obtain ⟨u, hu, rfl⟩ := hx
      obtain ⟨n, H', nx', hn⟩ := hS f u hu
      simp only [VRs] at hv
      subst hv
      refine .inr ⟨(call_ok hC n f [] .nil 0 _ H' nx' hn (fun _ => none) w [] rfl (good_nil hg)).1, ?_⟩
      exact (walk_of hC (Cl_of hn) (xs := []) rfl (good_nil hg) ro_nil).mono fun e w' ⟨h1, h2⟩ => ⟨u, h1, rfl, h2⟩
    · cases hx
def extX3 (P : Program) (E : Tr (Array Value → Sem Value)) (S : Tr Value) (I : Tr Unit) (f : FuncId) (args : List AV) : Option AV :=
  match I.get f, args with
  | some _, [v] => some v
  | _, _ => extX2 P E S f args
theorem extX3_ok {C : Cx} (hC : C.Sound) {E : Tr (Array Value → Sem Value)} {S : Tr Value} {I : Tr Unit} (h : ∀ f e, E.get f = some e → ExtFact C.P f e) (hS : ∀ f u, S.get f = some u → ∃ n H' nx', callN C n f [] .nil 0 = some (.lit u, H', nx'))
    (hI : ∀ f u, I.get f = some u → ExtFact C.P f Extern.AbiNoEscape.same) {f : FuncId} {args : List AV} {v : AV} (hx : extX3 C.P E S I f args = some v)
    (σ : Sig) (w : World) (xs : List Value) (hg : Glb w) (hv : VRs σ args xs) : (∃ x, (callFunc f xs.toArray).run C.P w = .ok (.value x) w ∧ VR σ v x) ∨
    ((callFunc f xs.toArray).run C.P w = .ok (.enter f xs.toArray) w ∧ Calls C.P f xs.toArray w fun e w' => ∃ x, e = .returned x ∧ VR σ v x ∧ RowKit.Below w.heap.size w w') := by
  unfold extX3 at hx
  split at hx
  · rename_i u v' hu
    injection hx with hx; subst hx
    obtain ⟨fn, h1, h2, h3, h4, h5⟩ := hI f _ hu
    simp only [VRs] at hv
    obtain ⟨y, ys, rfl, hy, rfl⟩ := hv
    refine .inl ⟨y, ?_, hy⟩
    rw [run_callFunc_extern h1 h2 h3 h4 h5]
    rfl
  · exact extX2_ok hC h hS hx σ w xs hg hv
end CI
noncomputable section
namespace CI
open Go
def ConFact (P : Program) (f : Nat) (g : List Value → Option Value) : Prop := ∀ xs v, g xs = some v → ∀ w, Glb w →
  (callFunc f xs.toArray).run P w = .ok (.enter f xs.toArray) w ∧ Calls P f xs.toArray w fun e w' => e = .returned v ∧ RowKit.Below w.heap.size w w'
def extX4 (P : Program) (E : Tr (Array Value → Sem Value)) (S : Tr Value) (I : Tr Unit) (A : Tr (List Value → Option Value)) (f : FuncId) (args : List AV) : Option AV :=
  match A.get f, plains args with
  | some g, some xs => (g xs).map abs
  | _, _ => extX3 P E S I f args
theorem extX4_ok {C : Cx} (hC : C.Sound) {E : Tr (Array Value → Sem Value)} {S : Tr Value} {I : Tr Unit} {A : Tr (List Value → Option Value)} (h : ∀ f e, E.get f = some e → ExtFact C.P f e)
    (hS : ∀ f u, S.get f = some u → ∃ n H' nx', callN C n f [] .nil 0 = some (.lit u, H', nx'))
    (hI : ∀ f u, I.get f = some u → ExtFact C.P f Extern.AbiNoEscape.same) (hA : ∀ f g, A.get f = some g → ConFact C.P f g) {f : FuncId} {args : List AV} {v : AV} (hx : extX4 C.P E S I A f args = some v)
    (σ : Sig) (w : World) (xs : List Value) (hg : Glb w) (hv : VRs σ args xs) : (∃ x, (callFunc f xs.toArray).run C.P w = .ok (.value x) w ∧ VR σ v x) ∨
    ((callFunc f xs.toArray).run C.P w = .ok (.enter f xs.toArray) w ∧ Calls C.P f xs.toArray w fun e w' => ∃ x, e = .returned x ∧ VR σ v x ∧ RowKit.Below w.heap.size w w') := by
  unfold extX4 at hx
  split at hx
  · rename_i g ys hgf hp
    simp only [Option.map_eq_some_iff] at hx
    obtain ⟨y, hy, rfl⟩ := hx
    have := plains_eq hp hv
    subst this
    obtain ⟨h1, h2⟩ := hA f g hgf _ y hy w hg
    exact .inr ⟨h1, h2.mono fun e w' ⟨h3, h4⟩ => ⟨y, h3, abs_VR σ y, h4⟩⟩
  · exact extX3_ok hC h hS hI hx σ w xs hg hv
end CI
noncomputable section
namespace CI
open Go
variable {σ : Sig} {H : Heap} {nx : Nat} {w w' : World}
theorem enter_of {P : Program} {k : FuncId} {fn : Func} {body : Code} (hf : P.funcs[k]? = some fn) (hname : (fn.name == "runtime.NumGoroutine") = false) (hbody : fn.body = some body) (xs : Array Value) (w : World) :
    (callFunc k xs).run P w = .ok (.enter k xs) w := by
  unfold callFunc
  rw [run_bind_ok (a := P) (w' := w) rfl]
  simp only [hf]
  rw [if_neg (by rw [hname]; simp), if_neg (by simp [hbody])]
  rfl
theorem fresh_step (g : Good σ H nx w) (hb : RowKit.Below w.heap.size w w') {N : Nat} {o : AObj} {room : Nat} (hN : w.heap.size ≤ N) (hO : OR σ ⟨N, room⟩ o w'.heap[N]?) :
    Step σ H nx w (σ.upd nx ⟨N, room⟩) (H.put nx (some o)) (nx + 1) w' ∧ Good (σ.upd nx ⟨N, room⟩) (H.put nx (some o)) (nx + 1) w' := by
  have hfr := g.fresh nx (Nat.le_refl _)
  have hext := Sig.upd_ext σ nx ⟨N, room⟩ hfr.1
  have hgetlt : ∀ k, k < w.heap.size → w'.heap[k]? = w.heap[k]? := fun k hk => hb.block k hk
  have hs : Step σ H nx w (σ.upd nx ⟨N, room⟩) (H.put nx (some o)) (nx + 1) w' := by
    refine ⟨hb.os, hb.tape, hb.output, hb.size, by omega, fun b hb => Sig.upd_ne _ _ _ (by omega), ?_, ?_, ?_, fun k hk _ => hgetlt k hk, ?_⟩
    · intro b o' hb hr
      rw [Tr.get_put_ne _ _ _ _ (by rintro rfl; rw [hfr.2] at hb; cases hb)]; exact hb
    · intro b hb h; rw [Tr.get_put_ne _ _ _ _ (by omega)]; exact h
    · intro b hb _; rw [Tr.get_put_ne _ _ _ _ (by omega)]
    · intro b l o' hb hl hlt
      by_cases e : b = nx
      · subst e; rw [Sig.upd_same] at hl; injection hl with hl; subst hl; simp at hlt; omega
      · rw [Tr.get_put_ne _ _ _ _ e] at hb; rw [Sig.upd_ne _ _ _ e] at hl
        exact ⟨b, l, o', hb, hl, rfl, .inr rfl⟩
  refine ⟨hs, g.up hs ⟨⟨?_, ?_⟩, ?_⟩⟩
  · intro b o' l hb hl
    by_cases e : b = nx
    · subst e
      rw [Tr.get_put_same] at hb; injection hb with hb; subst hb
      rw [Sig.upd_same] at hl; injection hl with hl; subst hl
      exact hO.ext hext
    · rw [Tr.get_put_ne _ _ _ _ e] at hb; rw [Sig.upd_ne _ _ _ e] at hl
      rw [hgetlt _ (g.lt hb hl)]
      exact (g.obj b o' l hb hl).ext hext
  · intro b b' o1 o2 l1 l2 hb hb' hl hl' he
    by_cases e : b = nx
    · subst e
      by_cases e' : b' = b
      · exact e'.symm
      · rw [Tr.get_put_ne _ _ _ _ e'] at hb'; rw [Sig.upd_ne _ _ _ e'] at hl'
        rw [Sig.upd_same] at hl; injection hl with hl; subst hl
        have := g.lt hb' hl'
        simp at he; omega
    · rw [Tr.get_put_ne _ _ _ _ e] at hb; rw [Sig.upd_ne _ _ _ e] at hl
      by_cases e' : b' = nx
      · subst e'
        rw [Sig.upd_same] at hl'; injection hl' with hl'; subst hl'
        have := g.lt hb hl
        simp at he; omega
      · rw [Tr.get_put_ne _ _ _ _ e'] at hb'; rw [Sig.upd_ne _ _ _ e'] at hl'
        exact g.inj b b' o1 o2 l1 l2 hb hb' hl hl' he
  · intro b hb
    have := g.fresh b (by omega)
    rw [Tr.get_put_ne _ _ _ _ (by omega), Sig.upd_ne _ _ _ (by omega)]
    exact this
end CI
set_option maxRecDepth 100000
namespace CI
open Go Go.Proofs
namespace Seat
def repC : List Value → Option Value
  | [.string s, .int .i64 n] => if 0 ≤ n ∧ n ≤ 4000000 ∧ s.size * n.toNat ≤ 4000000 then some (.string ⟨(Lib.repeatL s.data.toList n.toNat).toArray⟩) else none
  | _ => none
theorem conRep : ConFact Tryz.prog 195 repC := by
  intro xs v h w hg
  unfold repC at h
  split at h
  · rename_i s n
    split at h
    · rename_i hn
      injection h with h; subst h
      obtain ⟨u, rfl⟩ : ∃ u : Nat, n = u := ⟨n.toNat, by omega⟩
      rw [Int.toNat_natCast] at hn ⊢
      refine ⟨?_, ?_⟩
      · obtain ⟨body, hb⟩ : ∃ b, Tryz.f195.body = some b := ⟨_, rfl⟩
        exact enter_of Tryz.func195 (by kernel_rfl) hb _ w
      · exact Tryz.strings_Repeat s u w (by omega) (by omega)
    · cases h
  · cases h
end Seat
end CI
namespace CI
open Go Go.Proofs
namespace Seat
theorem tab10 {w : World} (hg : Glb w) : Lib.TabIs Tryz.prog w "internal/strconv.uint64pow10" .u64 Lib.pow10Tab := by
  obtain ⟨cs, t, fz, e, hq⟩ := hg 2 _ (GL_of (g := 2) (cs := gl2) rfl)
  have hq' : cs.toList = gl2 := hq
  have hn : Tryz.prog.globalNamed "internal/strconv.uint64pow10" = some 2 := by kernel_rfl
  unfold Lib.TabIs World.var?
  rw [hn]
  simp only [Option.bind_some, e]
  have h1 : gl2 = Lib.pow10Tab.map fun z => Value.int .u64 z := by kernel_rfl
  rw [← h1, ← hq']
def itoaC : List Value → Option Value
  | [.int .i64 n] => if -9223372036854775808 ≤ n ∧ n ≤ 9223372036854775807 then some (.string ⟨(Lib.itoa n).toArray⟩) else none
  | _ => none
theorem conItoa : ConFact Tryz.prog 139 itoaC := by
  intro xs v h w hg
  unfold itoaC at h
  split at h
  · rename_i n
    split at h
    · rename_i hn
      injection h with h; subst h
      refine ⟨?_, ?_⟩
      · obtain ⟨body, hb⟩ : ∃ b, Tryz.f139.body = some b := ⟨_, rfl⟩
        exact enter_of Tryz.func139 (by kernel_rfl) hb _ w
      · refine (Tryz.strconv_Itoa n hn.1 hn.2 w (tab10 hg)).mono fun e w' ⟨h1, k, os, h2⟩ => ⟨h1, ?_⟩
        subst h2
        exact Lib.below_grow _ _ (Nat.le_refl _) _ _
    · cases h
  · cases h
theorem err_cell {w : World} (hg : Glb w) {g : Nat} (h : GC g = none) (hi : GI g = true) : ∃ t p, w.cell? ⟨g, 0, none⟩ = some (.iface t p) := by
  obtain ⟨cs, t, fz, e, hq⟩ := hg g _ (GL_if h hi)
  obtain ⟨ti, p, hq'⟩ : ∃ ti p, cs.toList = [.iface ti p] := hq
  refine ⟨ti, p, ?_⟩
  rw [cell_at e, ← Array.getElem?_toList, hq']
  rfl
noncomputable def atoiY (args : List AV) (H : Heap) (nx : Nat) : Option (AV × Heap × Nat) :=
  match args with
  | [.lit (.string s)] =>
    if s.size ≤ 1000000 then
      match Lib.atoiAll s.data.toList with
      | .ok n => some (.tuple [.lit (.int .i64 n), .lit .nilIface], H, nx)
      | Lib.NumEnd.syntax => some (.tuple [.lit (.int .i64 0), .iface 463 (.ptr nx 0)], H.put nx (some (.cells [] 499 false)), nx + 1)
      | .range => some (.tuple [.lit (.int .i64 (Lib.atoiSat s.data.toList)), .iface 463 (.ptr nx 0)], H.put nx (some (.cells [] 499 false)), nx + 1)
    else none
  | _ => none
theorem err_post {σ : Sig} {H : Heap} {nx : Nat} {w : World} (g : Good σ H nx w) {n : Int} {s : ByteArray} {ev : Value} {e : Ending} {w' : World}
    (h : ∃ N, e = .returned (.tuple #[.int .i64 n, .iface 463 (.pointer (some ⟨N, 0, none⟩))]) ∧ w.heap.size ≤ N ∧ w'.heap[N]? = some (.cells #[.string ⟨#[65, 116, 111, 105]⟩, .string s, ev] 499 (0, 0)) ∧ RowKit.Below w.heap.size w w') :
    RetPost σ H nx w (.tuple [.lit (.int .i64 n), .iface 463 (.ptr nx 0)]) (H.put nx (some (.cells [] 499 false))) (nx + 1) e w' := by
  obtain ⟨N, rfl, hN, hc, hb⟩ := h
  have hs := fresh_step g hb (N := N) (o := .cells [] 499 false) (room := 3) hN
    ⟨#[.string ⟨#[65, 116, 111, 105]⟩, .string s, ev], (0, 0), hc, rfl, by simp [Loc.base_eq], by simp, fun _ i _ => by simp⟩
  refine ⟨_, _, rfl, ?_, hs.1, hs.2⟩
  simp only [VR, VRs]
  exact ⟨[.int .i64 n, .iface 463 (.pointer (some ⟨N, 0, none⟩))], rfl, _, _, rfl, rfl, _, _, rfl, ⟨_, rfl, _, Sig.upd_same _ _ _, by simp [Loc.base_eq]⟩, rfl⟩
theorem atoiY_ok {args : List AV} {H H' : Heap} {nx nx' : Nat} {v : AV} (h : atoiY args H nx = some (v, H', nx')) (σ : Sig) (w : World) (xs : List Value) (hx : VRs σ args xs) (g : Good σ H nx w) :
    (callFunc 204 xs.toArray).run Tryz.prog w = .ok (.enter 204 xs.toArray) w ∧ Calls Tryz.prog 204 xs.toArray w (RetPost σ H nx w v H' nx') := by
  unfold atoiY at h
  split at h
  · rename_i s
    simp only [VRs, VR] at hx
    obtain ⟨y, ys, rfl, rfl, rfl⟩ := hx
    refine ⟨?_, ?_⟩
    · obtain ⟨body, hb⟩ : ∃ b, Tryz.f204.body = some b := ⟨_, rfl⟩
      exact enter_of Tryz.func204 (by kernel_rfl) hb _ w
    · split at h
      · rename_i hs
        split at h
        · rename_i n hn
          simp only [Option.some.injEq, Prod.mk.injEq] at h
          obtain ⟨rfl, rfl, rfl⟩ := h
          refine (Tryz.strconv_Atoi_ok s (by omega) n hn w).mono fun e w' ⟨h1, h2⟩ => ?_
          have hb : RowKit.Below w.heap.size w w' := by
            rcases h2 with rfl | ⟨t, rfl⟩
            · exact RowKit.Below.refl _ _
            · exact Joins.below_bytesWorld _ _ _ _ (Nat.le_refl _)
          subst h1
          exact ⟨_, σ, rfl, (by simp only [VR, VRs]; exact ⟨[.int .i64 n, .nilIface], rfl, _, _, rfl, rfl, _, _, rfl, rfl, rfl⟩), Step.below hb, g.below hb⟩
        · rename_i hn
          simp only [Option.some.injEq, Prod.mk.injEq] at h
          obtain ⟨rfl, rfl, rfl⟩ := h
          obtain ⟨t, p, hc⟩ := err_cell g.glb (g := 3) rfl rfl
          exact (Tryz.strconv_Atoi_syntax s (by omega) hn _ w hc (.inr ⟨t, p, rfl⟩)).mono fun e w' h => err_post g h
        · rename_i hn
          simp only [Option.some.injEq, Prod.mk.injEq] at h
          obtain ⟨rfl, rfl, rfl⟩ := h
          obtain ⟨t, p, hc⟩ := err_cell g.glb (g := 4) rfl rfl
          exact (Tryz.strconv_Atoi_range s (by omega) hn _ w hc (.inr ⟨t, p, rfl⟩)).mono fun e w' h => err_post g h
      · cases h
  · cases h
end Seat
end CI
noncomputable section
namespace CI
open Go Go.RowKit
def ins (x : Int) : List Int → List Int
  | [] => [x]
  | y :: l => if x ≤ y then x :: y :: l else y :: ins x l
def isort : List Int → List Int
  | [] => []
  | x :: l => ins x (isort l)
theorem ins_perm (x : Int) : ∀ l : List Int, (ins x l).Perm (x :: l)
  | [] => List.Perm.refl _
  | y :: l => by
    unfold ins
    split
    · exact List.Perm.refl _
    · exact ((ins_perm x l).cons y).trans (List.Perm.swap x y l)
theorem isort_perm : ∀ l : List Int, (isort l).Perm l
  | [] => List.Perm.refl _
  | x :: l => (ins_perm x (isort l)).trans ((isort_perm l).cons x)
theorem ins_sorted (x : Int) : ∀ l : List Int, l.Pairwise (· ≤ ·) → (ins x l).Pairwise (· ≤ ·)
  | [], _ => by simp [ins]
  | y :: l, h => by
    rw [List.pairwise_cons] at h
    unfold ins
    split
    · rename_i hxy
      refine List.pairwise_cons.2 ⟨fun z hz => ?_, List.pairwise_cons.2 h⟩
      rcases List.mem_cons.1 hz with rfl | hz
      · exact hxy
      · exact Int.le_trans hxy (h.1 z hz)
    · rename_i hxy
      refine List.pairwise_cons.2 ⟨fun z hz => ?_, ins_sorted x l h.2⟩
      have := (ins_perm x l).mem_iff.1 hz
      rcases List.mem_cons.1 this with rfl | hz
      · omega
      · exact h.1 z hz
theorem isort_sorted : ∀ l : List Int, (isort l).Pairwise (· ≤ ·)
  | [] => List.Pairwise.nil
  | x :: l => ins_sorted x _ (isort_sorted l)
theorem merge_isort {ss ks : List Int} (h : ss.Perm ks) : (ss.mergeSort fun x y => decide (x ≤ y)) = isort ks := by
  have tr : ∀ a b c : Int, decide (a ≤ b) = true → decide (b ≤ c) = true → decide (a ≤ c) = true := fun a b c h1 h2 => by simp only [decide_eq_true_eq] at *; exact Int.le_trans h1 h2
  have tot : ∀ a b : Int, (decide (a ≤ b) || decide (b ≤ a)) = true := fun a b => by simp only [Bool.or_eq_true, decide_eq_true_eq]; exact Int.le_total a b
  refine List.Perm.eq_of_pairwise (le := fun a b => a ≤ b) (fun a b _ _ h1 h2 => Int.le_antisymm h1 h2) ?_ (isort_sorted ks) (((List.mergeSort_perm ss _).trans h).trans (isort_perm ks).symm)
  exact (List.pairwise_mergeSort tr tot ss).imp fun hh => by simpa using hh
def kI : AV → Int
  | .lit (.int .i64 x) => x
  | _ => 0
def okI : AV → Bool
  | .lit (.int .i64 x) => decide (-9223372036854775808 ≤ x ∧ x ≤ 9223372036854775807)
  | _ => false
def memB (x : Int) : List Int → Bool
  | [] => false
  | y :: l => if x = y then true else memB x l
def nodupB : List Int → Bool
  | [] => true
  | x :: l => !memB x l && nodupB l
theorem memB_iff (x : Int) : ∀ l, memB x l = true ↔ x ∈ l
  | [] => by simp [memB]
  | y :: l => by
    unfold memB
    split
    · rename_i h; simp [h]
    · rename_i h; rw [memB_iff x l]; simp [h]
theorem nodupB_nodup : ∀ l, nodupB l = true → l.Nodup
  | [], _ => List.nodup_nil
  | x :: l, h => by
    simp only [nodupB, Bool.and_eq_true, Bool.not_eq_true'] at h
    refine List.nodup_cons.2 ⟨fun hm => ?_, nodupB_nodup l h.2⟩
    rw [(memB_iff x l).2 hm] at h
    exact absurd h.1 (by simp)
theorem okI_eq {v : AV} (h : okI v = true) : v = .lit (.int .i64 (kI v)) ∧ -9223372036854775808 ≤ kI v ∧ kI v ≤ 9223372036854775807 := by
  unfold okI at h
  split at h
  · rename_i x
    simp only [decide_eq_true_eq] at h
    exact ⟨rfl, h⟩
  · cases h
theorem mapR_keys {σ : Sig} : ∀ {es : List (AV × AV)} {E : List MapEntry}, MapR σ es E → (∀ p ∈ es, okI p.1 = true) → E.map (·.key) = es.map fun p => encZ (kI p.1)
  | [], E, h, _ => by simp only [MapR] at h; subst h; rfl
  | (k, v) :: es, E, h, ho => by
    simp only [MapR] at h
    obtain ⟨e, E', rfl, h1, _, h3⟩ := h
    have hk : k = .lit (.int .i64 (kI k)) ∧ _ := okI_eq (v := k) (ho (k, v) List.mem_cons_self)
    rw [hk.1] at h1
    simp only [VR] at h1
    rw [List.map_cons, List.map_cons, mapR_keys h3 (fun p hp => ho p (List.mem_cons_of_mem _ hp)), h1]
structure SortFact (P : Program) (kt : TypeId) (f g : Nat) : Prop where
  under : P.underlying kt = some (.int .i64)
  enter : ∀ xs w, (callFunc f xs).run P w = .ok (.enter f xs) w
  keys : ∀ (c b nn : Nat) (D0 : DataW Unit) (R : Value → Option (DataW Unit × List MemPlace)) (w : World), c < w.heap.size → w.cell? ⟨c, 0, none⟩ = some (.map (some b)) → w.ownsMap P kt R b nn D0 → Maps.size D0 ≤ 1000000 →
    Calls P f #[.func (.func g) #[] #[.pointer (some ⟨c, 0, none⟩)]] w fun e w' => ∃ (v : Value) (ss : List Int), e = .returned v ∧ ss.Perm (intKeys D0) ∧
      w'.ownsRow w.heap.size kt 1 v ss.length ((ss.mergeSort (fun x y => decide (x ≤ y))).map encZ) ∧ (v = .slice none 0 0 ↔ ss = []) ∧ Below w.heap.size w w'
  nokeys : ∀ (c : Nat) (w : World), c < w.heap.size → w.cell? ⟨c, 0, none⟩ = some (.map none) →
    Calls P f #[.func (.func g) #[] #[.pointer (some ⟨c, 0, none⟩)]] w fun e w' => e = .returned (.slice none 0 0) ∧ Below w.heap.size w w'
def sortY (kt : TypeId) (g : Nat) (args : List AV) (H : Heap) (nx : Nat) : Option (AV × Heap × Nat) :=
  match args with
  | [.func (.func k) [] [.ptr c 0]] =>
    if k = g then
      match H.get c with
      | some (.cells [.map m] _ _) =>
        match H.get m with
        | some (.map es _) =>
          if (es.all fun p => okI p.1) = true ∧ nodupB (es.map fun p => kI p.1) = true ∧ es.length ≤ 1000000 then
            match es with
            | [] => some (.lit (.slice none 0 0), H, nx)
            | _ => some (.slice nx 0 es.length none 1, H.put nx (some (.cells ((isort (es.map fun p => kI p.1)).map fun n => .lit (.int .i64 n)) kt false)), nx + 1)
          else none
        | _ => none
      | some (.cells [.lit (.map none)] _ _) => some (.lit (.slice none 0 0), H, nx)
      | _ => none
    else none
  | _ => none
theorem wf_i64 {x : Int} (h : -9223372036854775808 ≤ x ∧ x ≤ 9223372036854775807) : (Lit.int .i64 x).wf = true := by
  have e1 : IntKind.i64.min = -9223372036854775808 := by decide
  have e2 : IntKind.i64.max = 9223372036854775807 := by decide
  show (decide (IntKind.i64.min ≤ x) && decide (x ≤ IntKind.i64.max)) = true
  rw [e1, e2]
  simpa using h
theorem sortY_ok {P : Program} {kt : TypeId} {f g : Nat} (F : SortFact P kt f g) {args : List AV} {H H' : Heap} {nx nx' : Nat} {v : AV} (h : sortY kt g args H nx = some (v, H', nx')) (σ : Sig) (w : World) (xs : List Value) (hx : VRs σ args xs) (gd : Good σ H nx w) :
    (callFunc f xs.toArray).run P w = .ok (.enter f xs.toArray) w ∧ Calls P f xs.toArray w (RetPost σ H nx w v H' nx') := by
  refine ⟨F.enter _ _, ?_⟩
  unfold sortY at h
  split at h
  rotate_left
  · cases h
  rename_i k c
  split at h
  rotate_left
  · cases h
  rename_i hk; subst hk
  simp only [VRs, VR] at hx
  obtain ⟨x, ys, rfl, ⟨fs', cs', rfl, rfl, y, ys', rfl, ⟨lc, hlc, rfl⟩, rfl⟩, rfl⟩ := hx
  have hp : (⟨lc.blk, lc.base + 0, none⟩ : Addr) = ⟨lc.blk, 0, none⟩ := by simp [Loc.base_eq]
  rw [hp]
  have same : ∀ w' : World, Below w.heap.size w w' → RetPost σ H nx w (.lit (.slice none 0 0)) H nx (.returned (.slice none 0 0)) w' :=
    fun w' hb => ⟨_, σ, rfl, by simp only [VR], Step.below hb, gd.below hb⟩
  split at h
  · rename_i m t ro hc
    obtain ⟨C, fz, hC, hsz, hlen, hcs, _⟩ := gd.obj c _ lc hc hlc
    obtain ⟨xv, hx0, hxv⟩ := hcs 0 (.map m) rfl
    simp only [VR] at hxv
    obtain ⟨lm, hlm, rfl⟩ := hxv
    have hcell : w.cell? ⟨lc.blk, 0, none⟩ = some (.map (some lm.blk)) := by
      rw [cell_at hC]; simpa [Loc.base_eq] using hx0
    have hlt : lc.blk < w.heap.size := (Array.getElem?_eq_some_iff.1 hC).1
    split at h
    · rename_i es ro2 hm
      split at h
      · rename_i hcond
        obtain ⟨hall, hnd, hles⟩ := hcond
        obtain ⟨E, clock, es', hE, hperm, hR, hborn⟩ := gd.obj m _ lm hm hlm
        have hok : ∀ p ∈ es', okI p.1 = true := fun p hp => List.all_eq_true.1 hall p (hperm.mem_iff.1 hp)
        have hkeys := mapR_keys hR hok
        have hnd' : (es'.map fun p => kI p.1).Nodup := (hperm.map _).nodup_iff.2 (nodupB_nodup _ hnd)
        have hEl : E.size = es.length := by
          have := congrArg List.length hkeys
          simp only [List.length_map, Array.length_toList] at this
          rw [this, hperm.length_eq]
        have hst : MapKept.Stamped E clock := by
          refine ⟨hborn.2, hborn.1, ?_⟩
          rw [hkeys]
          have : (es'.map fun p => encZ (kI p.1)) = (es'.map fun p => kI p.1).map encZ := by simp
          rw [this]
          exact List.Pairwise.map _ (fun a b hab e => hab (encZ_inj e)) hnd'
        have hrd : ∀ e ∈ E.toList, ∃ n : Int, (n = n) ∧ e.key = encZ n ∧ WideElems.rd P kt (fun _ => some ((.nil : DataW Unit), [])) e = some (.int .i64 n, .nil) := by
          intro e he
          have : e.key ∈ E.toList.map (·.key) := List.mem_map_of_mem he
          rw [hkeys, List.mem_map] at this
          obtain ⟨p, hp, hpe⟩ := this
          have hb := okI_eq (hok p hp)
          refine ⟨kI p.1, rfl, hpe.symm, ?_⟩
          obtain ⟨key, val, born⟩ := e
          simp only at hpe
          subst hpe
          exact WideElems.rd_mk (R := fun _ => some ((.nil : DataW Unit), [])) (Maps.keyOf_int_mk F.under (wf_i64 hb.2)) rfl
        have hown : w.ownsMap P kt (fun _ => some ((.nil : DataW Unit), [])) lm.blk E.size (.map ((E.toList.map (WideElems.rg P kt fun _ => some ((.nil : DataW Unit), []))).foldr DataW.insert [])) :=
          ⟨E, clock, hE, ⟨by have : maxLen = 9223372036854775807 := rfl; omega, hst, fun e he => let ⟨n, _, _, h⟩ := hrd e he; ⟨_, h⟩⟩, Nat.le_refl _, rfl⟩
        have hsize : Maps.size (.map ((E.toList.map (WideElems.rg P kt fun _ => some ((.nil : DataW Unit), []))).foldr DataW.insert [])) ≤ 1000000 := by
          rw [Maps.size_eq, (WideShapes.sorted_perm _).length_eq]
          simp; omega
        have hik : (intKeys (.map ((E.toList.map (WideElems.rg P kt fun _ => some ((.nil : DataW Unit), []))).foldr DataW.insert []))).Perm (es.map fun p => kI p.1) := by
          have h1 : (intKeys (.map ((E.toList.map (WideElems.rg P kt fun _ => some ((.nil : DataW Unit), []))).foldr DataW.insert []))).Perm ((E.toList.map (WideElems.rg P kt fun _ => some ((.nil : DataW Unit), []))).map fun p => Go.intOf p.1) :=
            (WideShapes.sorted_perm _).map _
          refine h1.trans ?_
          have h2 : ((E.toList.map (WideElems.rg P kt fun _ => some ((.nil : DataW Unit), []))).map fun p => Go.intOf p.1) = es'.map fun p => kI p.1 := by
            rw [List.map_map]
            have h3 : E.toList.map ((fun p : Lit × DataW Unit => Go.intOf p.1) ∘ WideElems.rg P kt fun _ => some ((.nil : DataW Unit), [])) = E.toList.map fun e => (match e.key with | .int .i64 n => n | _ => 0) := by
              refine List.map_congr_left fun e he => ?_
              obtain ⟨n, _, hke, hre⟩ := hrd e he
              simp only [Function.comp, WideElems.rg_of hre, hke, Go.intOf, encZ]
            rw [h3]
            have h4 : (E.toList.map fun e => (match e.key with | .int .i64 n => n | _ => (0 : Int))) = (E.toList.map (·.key)).map fun k => (match k with | .int .i64 n => n | _ => (0 : Int)) := by rw [List.map_map]; rfl
            rw [h4, hkeys, List.map_map]
            rfl
          rw [h2]
          exact hperm.map _
        refine (F.keys lc.blk lm.blk E.size _ _ w hlt hcell hown hsize).mono ?_
        rintro e w' ⟨rv, ss, rfl, hss, hrow, hnil, hb⟩
        have hsp := hss.trans hik
        have hms := merge_isort hsp
        have hsl : ss.length = es.length := by rw [hsp.length_eq]; simp
        rw [hms, hsl] at hrow
        split at h
        · simp only [Option.some.injEq, Prod.mk.injEq] at h
          obtain ⟨rfl, rfl, rfl⟩ := h
          obtain rfl : rv = .slice none 0 0 := hnil.2 (List.eq_nil_of_length_eq_zero (by simpa using hsl))
          exact same w' hb
        · rename_i hne
          simp only [Option.some.injEq, Prod.mk.injEq] at h
          obtain ⟨rfl, rfl, rfl⟩ := h
          have hpos : 0 < es.length := List.length_pos_iff.2 (fun e => hne e)
          rcases hrow.2 with ⟨_, hz⟩ | ⟨gb, cap, cur, rfl, hbase, hgb, r1, r2, r3, r4⟩
          · omega
          · have hil : (isort (es.map fun p => kI p.1)).length = es.length := by rw [(isort_perm _).length_eq]; simp
            have hs := fresh_step gd hb (N := gb) (o := .cells ((isort (es.map fun p => kI p.1)).map fun n => .lit (.int .i64 n)) kt false) (room := cap) hbase
              ⟨cur, (0, 0), hgb, by simpa using r3, by simp only [Loc.base_eq, List.length_map, hil]; omega, fun i v hi => ?_, fun _ i _ => by simp⟩
            · refine ⟨_, _, rfl, ?_, hs.1, hs.2⟩
              simp only [VR]
              exact ⟨_, cap, Sig.upd_same _ _ _, by simp [Loc.base_eq], r1, by simp [Loc.base_eq], by simp [Loc.base_eq]⟩
            · rw [List.getElem?_map, Option.map_eq_some_iff] at hi
              obtain ⟨n, hn, rfl⟩ := hi
              have hin : i < es.length := by rw [← hil]; exact (List.getElem?_eq_some_iff.1 hn).1
              refine ⟨.int .i64 n, ?_, by simp only [VR]⟩
              have h1 : (cur.toList.take (es.length * 1))[i]? = some (encZ n) := by
                rw [r4, List.getElem?_map, hn]; rfl
              rw [List.getElem?_take_of_lt (by omega)] at h1
              simpa [Loc.base_eq] using h1
      · cases h
    · cases h
  · rename_i t ro hc
    simp only [Option.some.injEq, Prod.mk.injEq] at h
    obtain ⟨rfl, rfl, rfl⟩ := h
    obtain ⟨C, fz, hC, hsz, hlen, hcs, _⟩ := gd.obj c _ lc hc hlc
    obtain ⟨xv, hx0, hxv⟩ := hcs 0 (.lit (.map none)) rfl
    simp only [VR] at hxv
    subst hxv
    have hcell : w.cell? ⟨lc.blk, 0, none⟩ = some (.map none) := by
      rw [cell_at hC]; simpa [Loc.base_eq] using hx0
    refine (F.nokeys lc.blk w (Array.getElem?_eq_some_iff.1 hC).1 hcell).mono ?_
    rintro e w' ⟨rfl, hb⟩
    exact same w' hb
  · cases h
end CI
namespace CI
open Go Go.Proofs Go.RowKit Go.Maps Go.Sort Go.Shelf
namespace Seat
theorem sortsA (m : Nat) : AnyZI.SortsIn Tryz.prog Tryz.sortedA_ren Fence.wide m :=
  ⟨fun blk off cap ss W hH hblk hsz => callsIn_wide.2 (AnyM.slices_Sort_int Tryz.sortA blk off cap ss W hH hblk hsz),
   fun p cap W => callsIn_wide.2 (AnyM.slices_Sort_int_none Tryz.sortA p cap W)⟩
set_option maxHeartbeats 1000000 in
theorem sortFact : SortFact Tryz.prog 3 361 394 where
  under := Tryz.underlying3
  enter := enters_of Tryz.func361 (by kernel_rfl) rfl
  keys := fun c b nn D0 R w hc hm hown hsz => by
    have hseq : SeqGives Fence.wide 2 Tryz.prog 394 #[.pointer (some ⟨c, 0, none⟩)] encZ (fun ss => ss.Perm (intKeys D0)) (Maps.size D0) w :=
      AnyZI.keys_gives (ρ := Tryz.keysA_ren) { Tryz.keysA with } Fence.wide _ trivial rfl (by omega) c b nn D0 w hc hm hown
    exact (callsIn_wide (n := 5)).1 (AnyZI.sorted_in Tryz.sortedA Fence.wide 5 trivial trivial trivial trivial rfl (by omega) (sortsA _) (enters_of Tryz.func157 (by kernel_rfl) rfl) 394 #[.pointer (some ⟨c, 0, none⟩)] trivial (enters_of Tryz.func394 (by kernel_rfl) rfl) _ _ (by have : maxLen = 9223372036854775807 := rfl; omega) (by omega) w hseq)
  nokeys := fun c w hc hm => by
    have hseq : SeqGives Fence.wide 2 Tryz.prog 394 #[.pointer (some ⟨c, 0, none⟩)] encZ (fun ss : List Int => ss = []) 0 w :=
      AnyZI.keys_gives_nil (ρ := Tryz.keysA_ren) { Tryz.keysA with } Fence.wide _ trivial rfl c w hc hm
    refine Calls.mono ((callsIn_wide (n := 5)).1 (AnyZI.sorted_in Tryz.sortedA Fence.wide 5 trivial trivial trivial trivial rfl (by omega) (sortsA _) (enters_of Tryz.func157 (by kernel_rfl) rfl) 394 #[.pointer (some ⟨c, 0, none⟩)] trivial (enters_of Tryz.func394 (by kernel_rfl) rfl) _ 0 (Nat.zero_le _) (by omega) w hseq)) ?_
    rintro e w' ⟨v, ss, rfl, rfl, _, hnil, hb⟩
    exact ⟨by rw [hnil.2 rfl], hb⟩
noncomputable def sortA (args : List AV) (H : Heap) (nx : Nat) : Option (AV × Heap × Nat) := sortY 3 394 args H nx
theorem sortA_ok {args : List AV} {H H' : Heap} {nx nx' : Nat} {v : AV} (h : sortA args H nx = some (v, H', nx')) (σ : Sig) (w : World) (xs : List Value) (hx : VRs σ args xs) (gd : Good σ H nx w) :
    (callFunc 361 xs.toArray).run Tryz.prog w = .ok (.enter 361 xs.toArray) w ∧ Calls Tryz.prog 361 xs.toArray w (RetPost σ H nx w v H' nx') := sortY_ok sortFact h σ w xs hx gd
end Seat
end CI
