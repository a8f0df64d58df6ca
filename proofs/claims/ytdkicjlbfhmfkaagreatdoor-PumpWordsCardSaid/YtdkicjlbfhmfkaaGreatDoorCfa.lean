/- CI: the same interpreter, laid so that the kernel runs it with less work. -/
import Derived.Test.YtdkicjlbfhmfkaaGreatDoorCis
set_option linter.unusedVariables false
set_option linter.unusedSimpArgs false
noncomputable section
namespace CI
open Go

abbrev RunFn := Nat → Code → St → Option (Ex × St)
abbrev RC := Cx → CallF → Tr AV → Heap → Nat → Res
def fNone1 {α : Sort _} (_ : α) : RC := fun _ _ _ _ _ => none
def fMove (x : Operand) : RC := fun C call E H nx => some (ev E x, H, nx)
def fPick (c a b : Operand) : RC := fun C call E H nx => match ev E c with
  | .lit (.bool t) => some (if t then ev E a else ev E b, H, nx)
  | _ => none
def fAlloc (t : TypeId) : RC := fun C call E H nx => allocOp C.T H nx t
def fBox (t : TypeId) (x : Operand) : RC := fun C call E H nx => boxOp H nx t (ev E x)
def ret1 (H : Heap) (nx : Nat) (v : AV) : AV × Heap × Nat := (v, H, nx)
def fBuild (t : TypeId) (ps : Array (Nat × Operand)) : RC := fun C call E H nx => (buildOp C.T t (partsA (ev E) ps.toList)).map (ret1 H nx)
def fBuildSlice (t : TypeId) (len : Nat) (ps : Array (Nat × Operand)) : RC := fun C call E H nx => buildSliceOp C.T H nx t len (partsA (ev E) ps.toList)
def fUpd (t : TypeId) (m k x : Operand) : RC := fun C call E H nx => (mapUpdateOp C.P C.T H t (ev E m) (ev E k) (ev E x)).map fun H' => (.lit undef, H', nx)
noncomputable def nth (l : List AV) : Nat → Option AV := @List.rec AV (fun _ => Nat → Option AV) (fun _ => none) (fun c _ ih k => @Bool.rec (fun _ => Option AV) (ih (Nat.sub k 1)) (some c) (Nat.beq k 0)) l
theorem nth_eq : ∀ (l : List AV) (k : Nat), nth l k = l[k]?
  | [], k => by simp [nth]
  | c :: l, k => by
    show @Bool.rec (fun _ => Option AV) (nth l (k - 1)) (some c) (Nat.beq k 0) = _
    cases k with
    | zero => rfl
    | succ k => rw [show Nat.beq (k + 1) 0 = false from rfl]; simp only [Nat.add_sub_cancel]; rw [nth_eq l k]; simp
noncomputable def setN (v : AV) (l : List AV) : Nat → Option (List AV) := @List.rec AV (fun _ => Nat → Option (List AV)) (fun _ => none) (fun c cs ih k => @Bool.rec (fun _ => Option (List AV)) (match ih (Nat.sub k 1) with
    | some l => some (c :: l)
    | none => none) (some (v :: cs)) (Nat.beq k 0)) l
theorem setN_eq (v : AV) : ∀ (l : List AV) (k : Nat), setN v l k = if k < l.length then some (l.set k v) else none
  | [], k => by simp [setN]
  | c :: l, k => by
    show @Bool.rec (fun _ => Option (List AV)) (match setN v l (k - 1) with | some l => some (c :: l) | none => none) (some (v :: l)) (Nat.beq k 0) = _
    cases k with
    | zero => simp
    | succ k =>
      rw [show Nat.beq (k + 1) 0 = false from rfl]
      simp only [Nat.add_sub_cancel, setN_eq v l k]
      by_cases h : k < l.length
      · simp [h]
      · simp [h]
noncomputable def loadF (T : Tr TInfo) (H : Heap) (t : TypeId) (a : AV) : Option AV :=
  match a with
  | .ptr b o => match T.get t with
    | some i => @Bool.rec (fun _ => Option AV) (match H.get b with
      | some (.cells cs _ _) => nth cs o
      | _ => none) (loadOp T H t (.ptr b o)) i.agg
    | none => none
  | a => loadOp T H t a
theorem loadF_eq (T : Tr TInfo) (H : Heap) (t : TypeId) (a : AV) : loadF T H t a = loadOp T H t a := by
  unfold loadF
  split
  · rename_i b o
    split
    · rename_i i hi
      cases hg : i.agg with
      | true => rfl
      | false =>
        unfold loadOp
        rw [hi]
        simp only [hg, Bool.false_eq_true, if_false]
        cases H.get b with
        | none => rfl
        | some ob =>
          cases ob with
          | cells cs tb ro =>
            simp only [nth_eq, cut]
            by_cases h : o + 1 ≤ cs.length
            · rw [if_pos h]
              simp only [Option.bind_some, List.getElem?_take, List.getElem?_drop]
              simp
            · rw [if_neg h]
              simp only [Option.bind_none]
              rw [List.getElem?_eq_none (by omega)]
          | _ => rfl
    · rename_i hi
      unfold loadOp
      rw [hi]
  · rfl
/-- A value of one cell, as it is. -/
def single : AV → Bool
  | .lit v => oneV v
  | .agg _ => false
  | .tuple _ => false
  | v => one v
noncomputable def storeF (T : Tr TInfo) (H : Heap) (t : TypeId) (a v : AV) : Option Heap :=
  match a with
  | .ptr b o => match T.get t with
    | some i => @Bool.rec (fun _ => Option Heap) (storeOp T H t (.ptr b o) v) (match H.get b with
      | some (.cells cs tb false) => match setN v cs o with
        | some cs' => some (H.put b (some (.cells cs' tb false)))
        | none => none
      | _ => none) (Nat.beq i.size 1 && single v)
    | none => none
  | a => storeOp T H t a v
theorem overA_one (cs : List AV) (o : Nat) (v : AV) (h : o < cs.length) : overA cs o [v] = cs.set o v := by
  unfold overA
  rw [List.set_eq_take_append_cons_drop, if_pos h]
  simp
theorem storeF_eq (T : Tr TInfo) (H : Heap) (t : TypeId) (a v : AV) : storeF T H t a v = storeOp T H t a v := by
  unfold storeF
  split
  · rename_i b o
    split
    · rename_i i hi
      cases hc : (Nat.beq i.size 1 && single v) with
      | false => rfl
      | true =>
        simp only [Bool.and_eq_true] at hc
        have h1 : i.size = 1 := Nat.eq_of_beq_eq_true hc.1
        have hcell : cellsOf v = [v] := by
          cases v with
          | lit x => cases x <;> first | rfl | (exfalso; have := hc.2; simp [single, oneV] at this)
          | agg cs => have := hc.2; simp [single] at this
          | tuple cs => have := hc.2; simp [single] at this
          | _ => rfl
        have hone : one v = true := by
          cases v with
          | lit x => exact hc.2
          | agg cs => have := hc.2; simp [single] at this
          | tuple cs => have := hc.2; simp [single] at this
          | _ => exact hc.2
        unfold storeOp
        rw [hi]
        simp only
        cases hH : H.get b with
        | none => rfl
        | some ob =>
          cases ob with
          | cells cs tb ro =>
            cases ro with
            | true => rfl
            | false =>
              simp only [hcell, List.length_singleton, h1, List.all_cons, hone, List.all_nil, Bool.and_true, and_true, true_and, setN_eq]
              by_cases h : o < cs.length
              · rw [if_pos h, if_pos (by omega), overA_one _ _ _ h]
              · rw [if_neg h, if_neg (by omega)]
          | _ => rfl
    · rename_i hi
      unfold storeOp
      rw [hi]
  · rfl
noncomputable def fLoad (t : TypeId) (a : Operand) : RC := fun C call E H nx => (loadF C.T H t (ev E a)).map (ret1 H nx)
noncomputable def fStore (t : TypeId) (a x : Operand) : RC := fun C call E H nx => (storeF C.T H t (ev E a) (ev E x)).map fun H' => (.lit undef, H', nx)
def fNil (x : Operand) : RC := fun C call E H nx => (nilCheckOp (ev E x)).map (ret1 H nx)
def fastInt (op : BinOp) : Option (IntKind → Int → Int → AV) :=
  @BinOp.casesOn (fun _ => Option (IntKind → Int → Int → AV)) op
    (some fun k a b => .lit (.int k (k.wrap (a + b)))) (some fun k a b => .lit (.int k (k.wrap (a - b)))) (some fun k a b => .lit (.int k (k.wrap (a * b)))) none none none none none none none none
    (some fun k a b => .lit (.bool (decide (a = b)))) (some fun k a b => .lit (.bool (!decide (a = b)))) (some fun k a b => .lit (.bool (decide (a < b)))) (some fun k a b => .lit (.bool (decide (a ≤ b)))) (some fun k a b => .lit (.bool (decide (b < a)))) (some fun k a b => .lit (.bool (decide (b ≤ a))))
theorem fastInt_ok {op : BinOp} {f : IntKind → Int → Int → AV} (h : fastInt op = some f) (P : Program) (T : Tr TInfo) (t : TypeId) (x y : Operand) (k : IntKind) (a b : Int) :
    binOpA P T op t x y (.lit (.int k a)) (.lit (.int k b)) = some (f k a b) := by
  cases op <;> simp only [fastInt, Option.some.injEq, reduceCtorEq] at h <;> subst h <;> cases k <;> rfl
def fBin (op : BinOp) (t : TypeId) (x y : Operand) (_ : TypeId) : RC := fun C call E H nx => match ev E x, ev E y with
  | .lit (.int k a), .lit (.int k' b) => (match fastInt op, decide (k = k') with
    | some f, true => some (f k a b, H, nx)
    | _, _ => (binOpA C.P C.T op t x y (.lit (.int k a)) (.lit (.int k' b))).map (ret1 H nx))
  | u, v => (binOpA C.P C.T op t x y u v).map (ret1 H nx)
theorem fBin_eq (op : BinOp) (t : TypeId) (x y : Operand) (t2 : TypeId) (C : Cx) (call : CallF) (E : Tr AV) (H : Heap) (nx : Nat) : fBin op t x y t2 C call E H nx = (binOpA C.P C.T op t x y (ev E x) (ev E y)).map (ret1 H nx) := by
  unfold fBin
  split
  · rename_i k a k' b hx hy
    split
    · rename_i f hf hk
      have := of_decide_eq_true hk
      subst this
      rw [hx, hy, fastInt_ok hf]
      rfl
    · rw [hx, hy]
  · rfl
def fUn (op : UnOp) (_ : TypeId) (x : Operand) : RC := fun C call E H nx => (plain1 C.P (Op.unary op) (ev E x)).map (ret1 H nx)
def fConv (s d : TypeId) (x : Operand) : RC := fun C call E H nx => convA C.P C.T H nx s d (ev E x)
def fIface (t : TypeId) (x : Operand) : RC := fun C call E H nx => (mkIfaceOp C.T t (ev E x)).map (ret1 H nx)
def fFunc (fn : Fn) (fs cs : Array Operand) : RC := fun C call E H nx => some (.func fn (fs.toList.map (ev E)) (cs.toList.map (ev E)), H, nx)
def fMakeMap (t : TypeId) (r : Option Operand) : RC := fun C call E H nx => makeMapOp C.T H nx t (r.map (ev E))
def fMakeSlice (t : TypeId) (l c : Operand) : RC := fun C call E H nx => makeSliceOp C.T H nx t (ev E l) (ev E c)
def fSlice (t : TypeId) (x : Operand) (lo hi mx : Option Operand) : RC := fun C call E H nx => (sliceOp C.P C.T H t (ev E x) (lo.map (ev E)) (hi.map (ev E)) (mx.map (ev E))).map (ret1 H nx)
def fFA (s : TypeId) (x : Operand) (f : Nat) : RC := fun C call E H nx => (fieldAddrOp C.T s (ev E x) f).map (ret1 H nx)
def fField (s : TypeId) (x : Operand) (f : Nat) : RC := fun C call E H nx => (fieldOp C.T s (ev E x) f).map (ret1 H nx)
def fIA (t : TypeId) (x i : Operand) : RC := fun C call E H nx => (indexAddrOp C.T t (ev E x) (ev E i)).map (ret1 H nx)
def fIx (t : TypeId) (x i : Operand) : RC := fun C call E H nx => (indexOp C.P C.T t (ev E x) (ev E i)).map (ret1 H nx)
def fLookup (t : TypeId) (x i : Operand) (ok : Bool) : RC := fun C call E H nx => (lookupOp C.P C.T H t (ev E x) (ev E i) ok).map (ret1 H nx)
def fExtract (x : Operand) (i : Nat) : RC := fun C call E H nx => (extractOp (ev E x) i).map (ret1 H nx)
def fCall (c : Call) : RC := fun C call E H nx => match c.callee with
  | .builtin b => builtinA C H nx b c.argTypes.toList (c.args.toList.map (ev E))
  | _ => callA C call (ev E) c H nx
def n0 : RC := fun _ _ _ _ _ => none
noncomputable def stepF (o : Op) : RC :=
  @Op.casesOn (fun _ => RC) o fMove fMove fPick fAlloc fBox fBuild fBuildSlice fUpd fLoad fStore (fun _ => n0) (fun _ => n0) fNil fBin fUn fConv (fun _ _ => n0) fIface fFunc fMakeMap (fun _ _ => n0) fMakeSlice fSlice fFA fField fIA fIx
    fLookup fUpd (fun _ _ _ => n0) (fun _ _ _ _ => n0) (fun _ _ => n0) (fun _ _ => n0) (fun _ => n0) (fun _ _ _ _ => n0) fExtract fCall (fun _ => n0) (fun _ => n0) (fun _ => n0) (fun _ _ => n0) (fun _ _ _ => n0) (fun _ _ => n0)
theorem stepF_eq (o : Op) (C : Cx) (call : CallF) (E : Tr AV) (H : Heap) (nx : Nat) : stepF o C call E H nx = stepA C call (ev E) o H nx := by
  cases o <;> try rfl
  · rename_i t a
    show (loadF C.T H t (ev E a)).map (ret1 H nx) = _
    rw [loadF_eq]; rfl
  · rename_i t a x
    show (storeF C.T H t (ev E a) (ev E x)).map _ = _
    rw [storeF_eq]; rfl
  · rename_i op t x y t2
    exact fBin_eq op t x y t2 C call E H nx
  · rename_i c
    obtain ⟨cal, args, ts⟩ := c
    cases cal <;> rfl

noncomputable def stepO (C : Cx) (call : CallF) (nt : Nat) (ops : Array Oper) (o : Oper) (ih : St → Option St) (s : St) : Option St :=
  @Bool.rec (fun _ => Option St)
    (match put? s.env nt o.dst (.lit undef) with
      | some env' => ih ⟨env', s.H, s.nx⟩
      | none => none)
    (match stepF o.op C call s.env s.H s.nx with
      | some r => match put? s.env nt o.dst r.1 with
        | some env' => ih ⟨env', r.2.1, r.2.2⟩
        | none => none
      | none => none) (wantedA ops o s.env)
noncomputable def runOpsF (C : Cx) (call : CallF) (nt : Nat) (ops : Array Oper) (l : List Oper) : St → Option St :=
  @List.rec Oper (fun _ => St → Option St) (fun s => some s) (fun o rest ih => stepO C call nt ops o ih) l
theorem runOpsF_eq (C : Cx) (call : CallF) (nt : Nat) (ops : Array Oper) : ∀ (l : List Oper), runOpsF C call nt ops l = runOps C call nt ops l
  | [] => rfl
  | o :: rest => by
    have ih := runOpsF_eq C call nt ops rest
    funext s
    show stepO C call nt ops o (runOpsF C call nt ops rest) s = _
    rw [ih]
    unfold stepO
    simp only [runOps, stepF_eq]
    cases wantedA ops o s.env with
    | true =>
      simp only [if_true]
      cases stepA C call (ev s.env) o.op s.H s.nx with
      | none => rfl
      | some r => rfl
    | false => simp only [Bool.false_eq_true, if_false]; rfl

theorem load_nil (T : Tr TInfo) (t : TypeId) (b o : Nat) : loadOp T .nil t (.ptr b o) = none := by
  unfold loadOp
  cases T.get t with
  | none => rfl
  | some i => simp only [Tr.get_nil]
theorem load_ro (T : Tr TInfo) (H : Heap) (t : TypeId) (b o : Nat) : loadOp T (roAll H) t (.ptr b o) = loadOp T H t (.ptr b o) := by
  unfold loadOp
  cases T.get t with
  | none => rfl
  | some i =>
    simp only [roAll_get]
    cases H.get b with
    | none => rfl
    | some ob => cases ob <;> rfl
/-- A load from a block: what it is looked for. -/
def ldOf (o : Op) (E : Tr AV) : Option (TypeId × Nat × Nat) := match o with
  | .load t a => match ev E a with
    | .ptr b off => some (t, b, off)
    | _ => none
  | _ => none
theorem ldOf_step {o : Op} {E : Tr AV} {t : TypeId} {b off : Nat} (h : ldOf o E = some (t, b, off)) (C : Cx) (call : CallF) (H : Heap) (nx : Nat) : stepF o C call E H nx = (loadOp C.T H t (.ptr b off)).map (ret1 H nx) := by
  unfold ldOf at h
  split at h
  · rename_i t' a
    split at h
    · rename_i b' off' he
      simp only [Option.some.injEq, Prod.mk.injEq] at h
      obtain ⟨rfl, rfl, rfl⟩ := h
      show (loadF C.T H _ (ev E a)).map (ret1 H nx) = _
      rw [he, loadF_eq]
    · cases h
  · cases h
theorem ldOf_eff {o : Op} {E : Tr AV} {r : TypeId × Nat × Nat} (h : ldOf o E = some r) : isEff o = false := by
  unfold ldOf at h
  split at h
  · rfl
  · cases h
noncomputable def tx1S (C : Cx) (call : CallF) (ops : Array Oper) (o : Oper) (s : St) : Option (K × AV × Heap × Nat) :=
  @Bool.rec (fun _ => Option (K × AV × Heap × Nat)) (some (.skip, .lit undef, s.H, s.nx))
    (@Bool.rec (fun _ => Option (K × AV × Heap × Nat))
      (match stepF o.op C call s.env .nil s.nx with
        | some (v, X, nx') =>
          if nx' = s.nx then some (.still, v, s.H, s.nx) else
          if nx' = s.nx + 1 then
            match X.get s.nx with
            | some ob => some (.new ob, v, s.H.put s.nx (some ob), s.nx + 1)
            | none => none
          else none
        | none =>
          match stepF o.op C call s.env (roAll s.H) s.nx with
          | some (v, _, nx') => if nx' = s.nx ∧ AV.belowB s.nx v = true then some (.read, v, s.H, s.nx) else none
          | none => none)
      (match stepF o.op C call s.env s.H s.nx with
        | some (v, H', nx') => if s.nx ≤ nx' then some (.eff, v, H', nx') else none
        | none => none) (isEff o.op)) (wantedA ops o s.env)
theorem stepA_still (C : Cx) (call : CallF) (ρ : Operand → AV) (o : Op) (h : isEff o = false) (H : Heap) (nx : Nat) : stepA C call ρ o H nx = opA C ρ o H nx := by
  unfold stepA
  split
  · rename_i c
    split
    · rename_i hc
      exfalso
      obtain ⟨cal, args, ts⟩ := c
      cases cal with
      | builtin b => simp [isCall] at hc
      | _ => exact Bool.noConfusion (show true = false from h)
    · rfl
  · rfl
theorem tx1S_eq (C : Cx) (call : CallF) (ops : Array Oper) (o : Oper) (s : St) : tx1S C call ops o s = tx1 C call ops o s := by
  unfold tx1S tx1
  cases wantedA ops o s.env with
  | false => simp only [Bool.false_eq_true, if_false]
  | true =>
    simp only [if_true]
    cases he : isEff o.op with
    | true =>
      simp only [if_true, stepF_eq]
      cases stepA C call (ev s.env) o.op s.H s.nx with
      | none => rfl
      | some r => rfl
    | false =>
      simp only [Bool.false_eq_true, if_false, stepF_eq, stepA_still _ _ _ _ he]
      cases opA C (ev s.env) o.op .nil s.nx with
      | none =>
        simp only
        cases opA C (ev s.env) o.op (roAll s.H) s.nx with
        | none => rfl
        | some r => rfl
      | some r => rfl
noncomputable def tx1F (C : Cx) (call : CallF) (ops : Array Oper) (o : Oper) (s : St) : Option (K × AV × Heap × Nat) :=
  match ldOf o.op s.env with
  | some (t, b, off) => @Bool.rec (fun _ => Option (K × AV × Heap × Nat)) (some (.skip, .lit undef, s.H, s.nx)) (match loadF C.T s.H t (.ptr b off) with
    | some v => @Bool.rec (fun _ => Option (K × AV × Heap × Nat)) none (some (.read, v, s.H, s.nx)) (AV.belowB s.nx v)
    | none => none) (wantedA ops o s.env)
  | none => tx1S C call ops o s
theorem tx1F_eq (C : Cx) (call : CallF) (ops : Array Oper) (o : Oper) (s : St) : tx1F C call ops o s = tx1 C call ops o s := by
  rw [← tx1S_eq]
  unfold tx1F
  split
  · rename_i t b off h
    unfold tx1S
    cases wantedA ops o s.env with
    | false => rfl
    | true =>
      simp only [ldOf_eff h, ldOf_step h, load_nil, load_ro, loadF_eq, Option.map_none]
      cases loadOp C.T s.H t (.ptr b off) with
      | none => rfl
      | some v =>
        simp only [Option.map_some, ret1, true_and]
        cases AV.belowB s.nx v <;> rfl
  · rfl
noncomputable def txO (C : Cx) (call : CallF) (nt : Nat) (ops : Array Oper) (o : Oper) (ih : St → Option (List DS × St)) (s : St) : Option (List DS × St) :=
  match tx1F C call ops o s with
  | none => none
  | some (k, v, H', nx') =>
    match put? s.env nt o.dst v with
    | none => none
    | some env' =>
      match ih ⟨env', H', nx'⟩ with
      | none => none
      | some (l, sN) => some (⟨k, v, s⟩ :: l, sN)
noncomputable def txRunF (C : Cx) (call : CallF) (nt : Nat) (ops : Array Oper) (l : List Oper) : St → Option (List DS × St) :=
  @List.rec Oper (fun _ => St → Option (List DS × St)) (fun s => some ([], s)) (fun o rest ih => txO C call nt ops o ih) l
theorem txRunF_eq (C : Cx) (call : CallF) (nt : Nat) (ops : Array Oper) : ∀ (l : List Oper), txRunF C call nt ops l = txRun C call nt ops l
  | [] => rfl
  | o :: rest => by
    have ih := txRunF_eq C call nt ops rest
    funext s
    show txO C call nt ops o (txRunF C call nt ops rest) s = _
    rw [ih]
    unfold txO
    simp only [txRun, tx1F_eq]
    rfl
noncomputable def readS (C : Cx) (A : List Nat) (l : List DS) (sN : St) (i : Nat) (o : Oper) (d : DS) : Bool :=
  @Bool.rec (fun _ => Bool)
    ((0 :: (effIdx l).map (· + 1)).all fun p =>
      !(allowed A (effIdx l) i p) ||
      match stepF o.op C (fun _ _ _ _ => none) d.s.env (roAll (addNews l p (stAt l sN p).H)) sN.nx with
      | some (v, _, nx') => decide (nx' = sN.nx) && AV.eqB v d.v
      | none => false)
    (readOK C A l sN i o d) (isEff o.op)
theorem readS_eq (C : Cx) (A : List Nat) (l : List DS) (sN : St) (i : Nat) (o : Oper) (d : DS) : readS C A l sN i o d = readOK C A l sN i o d := by
  unfold readS
  cases he : isEff o.op with
  | true => rfl
  | false =>
    simp only [stepF_eq, stepA_still _ _ _ _ he]
    rfl
noncomputable def readF (C : Cx) (A : List Nat) (l : List DS) (sN : St) (i : Nat) (o : Oper) (d : DS) : Bool :=
  match ldOf o.op d.s.env with
  | some (t, b, off) => (0 :: (effIdx l).map (· + 1)).all fun p =>
      !(allowed A (effIdx l) i p) ||
      match loadF C.T (addNews l p (stAt l sN p).H) t (.ptr b off) with
      | some v => AV.eqB v d.v
      | none => false
  | none => readS C A l sN i o d
theorem readF_eq (C : Cx) (A : List Nat) (l : List DS) (sN : St) (i : Nat) (o : Oper) (d : DS) : readF C A l sN i o d = readOK C A l sN i o d := by
  rw [← readS_eq]
  unfold readF
  split
  · rename_i t b off h
    unfold readS
    simp only [ldOf_eff h, ldOf_step h, load_ro, loadF_eq]
    congr 1
    funext p
    cases loadOp C.T (addNews l p (stAt l sN p).H) t (.ptr b off) with
    | none => rfl
    | some v => simp only [Option.map_some, ret1, decide_true, Bool.true_and]
  · rfl
noncomputable def runDrawF (C : Cx) (call : CallF) (nt : Nat) (ops : Array Oper) (s : St) : Option St :=
  match txRunF C call nt ops ops.toList s with
  | none => none
  | some (l, sN) =>
    if (ops.toList.zip l).zipIdx.all fun ((o, d), i) =>
      match d.k with
      | .read => readF C (ancs ops.toList []) l sN i o d
      | _ => true
    then some sN else none
theorem runDrawF_eq (C : Cx) (call : CallF) (nt : Nat) (ops : Array Oper) (s : St) : runDrawF C call nt ops s = runDraw C call nt ops s := by
  unfold runDrawF runDraw
  rw [txRunF_eq]
  cases txRun C call nt ops ops.toList s with
  | none => rfl
  | some r =>
    obtain ⟨l, sN⟩ := r
    simp only [readF_eq]
    rfl

abbrev CR := Cx → RunFn → Nat → St → Option (Ex × St)
def nrm (s : St) : Ex × St := (.normal, s)
def gSkip : CR := fun C run nt s => some (.normal, s)
noncomputable def gRegion (_ : Nat) (ops : Array Oper) (dr : Bool) : CR := fun C run nt s =>
  @Bool.rec (fun _ => Option (Ex × St)) ((runOpsF C (callS C run) nt ops ops.toList s).map nrm) ((runDrawF C (callS C run) nt ops s).map nrm) dr
def gSeq (a b : Code) : CR := fun C run nt s => match run nt a s with
  | some (.normal, s') => run nt b s'
  | r => r
def gCond (x : Operand) (a b : Code) : CR := fun C run nt s => match ev s.env x with
  | .lit (.bool true) => run nt a s
  | .lit (.bool false) => run nt b s
  | _ => none
def gBlock (id : Nat) (b : Code) : CR := fun C run nt s => match run nt b s with
  | some (.exit i, s') => if i = id then some (.normal, s') else some (.exit i, s')
  | r => r
def gLoop (b : Code) : CR := fun C run nt s => match run nt b s with
  | some (.normal, s') => run nt (.loop b) s'
  | r => r
def gExit (id : Nat) : CR := fun C run nt s => some (.exit id, s)
def gRet : CR := fun C run nt s => some (.ret, s)
def c0 : CR := fun _ _ _ _ => none
noncomputable def execSF (c : Code) : CR :=
  @Code.casesOn (fun _ => CR) c gSkip gRegion gSeq gCond gBlock gLoop (fun _ _ _ _ => c0) gExit (fun _ => c0) (fun _ => gSkip) (fun _ => c0) gRet (fun _ => c0)
theorem execSF_eq (c : Code) (C : Cx) (run : RunFn) (nt : Nat) (s : St) : execSF c C run nt s = execS C run nt c s := by
  cases c <;> try rfl
  rename_i id ops dr
  show gRegion id ops dr C run nt s = _
  unfold gRegion
  rw [runOpsF_eq, runDrawF_eq]
  cases dr <;> rfl
noncomputable def execF (C : Cx) (n : Nat) : RunFn := @Nat.rec (fun _ => RunFn) (fun _ _ _ => none) (fun _ ih nt c s => execSF c C ih nt s) n
theorem execF_eq (C : Cx) : ∀ n, execF C n = exec C n
  | 0 => rfl
  | n + 1 => by
    have ih := execF_eq C n
    funext nt c s
    show execSF c C (execF C n) nt s = _
    rw [ih, execSF_eq]
    rfl
noncomputable abbrev callF (C : Cx) (n : Nat) : CallF := callS C (execF C n)
theorem callF_eq (C : Cx) (n : Nat) : callF C n = callN C n := by
  unfold callF callN
  rw [execF_eq]
end CI
