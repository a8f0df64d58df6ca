/- CI: where a slice's elements lie. -/
import Derived.Test.YtdkicjlbfhmfkaaGreatDoorCl
set_option linter.unusedVariables false
set_option linter.unusedSimpArgs false
noncomputable section
namespace CI
open Go
variable {P : Program} {σ : Sig} {H : Heap} {nx : Nat} {w : World}

def sliceDataOp (x : AV) : Option AV :=
  match x with
  | .slice b o (_ + 1) _ _ => some (.ptr b o)
  | .lit (.slice none _ _) => some (.lit (.pointer none))
  | _ => none
theorem sliceDataOp_out (g : Good σ H nx w) {ts : Array TypeId} {ty : TypeId} {x v : AV} {xv : Value} (hx : VR σ x xv) (h : sliceDataOp x = some v) : Out P σ H nx w v H nx (Builtin.unsafeSliceData_ ts ty #[xv]) := by
  unfold sliceDataOp at h
  split at h
  · rename_i b o n c e
    injection h with h; subst h
    simp only [VR] at hx
    obtain ⟨l, c', hl, rfl, hok, _⟩ := hx
    refine ⟨.pointer (some ⟨l.blk, l.base + o, none⟩), w, σ, ?_, ?_, Step.refl, g⟩
    · cases c' with
      | zero => omega
      | succ k => rfl
    · simp only [VR]; exact ⟨l, hl, rfl⟩
  · injection h with h; subst h
    simp only [VR] at hx
    subst hx
    exact ⟨_, w, σ, rfl, rfl, Step.refl, g⟩
  · cases h

variable {H' : Heap} {nx' : Nat}
theorem run_loadBytesI : ∀ (ns : List Int) (a : Addr) (acc : ByteArray), (∀ j n, ns[j]? = some n → w.cell? (a.add j) = some (.int .u8 n)) →
    (loadBytes a acc ns.length).run P w = .ok (ns.foldl (fun r n => r.push (UInt8.ofNat n.toNat)) acc) w
  | [], a, acc, h => rfl
  | n :: ns, a, acc, h => by
    have h0 := h 0 n rfl
    have e0 : a.add 0 = a := by simp [Addr.add]
    rw [e0] at h0
    have ih := run_loadBytesI ns (a.add 1) (acc.push (UInt8.ofNat n.toNat)) (fun j m hj => by
      have := h (j + 1) m hj
      rw [← this]
      congr 1
      unfold Addr.add
      split <;> simp_all <;> omega)
    simp only [List.length_cons, loadBytes, List.foldl_cons]
    have hl : (load a).run P w = .ok (.int .u8 n) w := by simp [h0]
    rw [run_bind_ok hl]
    exact ih

def unsafeStringOp (P : Program) (T : Tr TInfo) (H : Heap) (nx : Nat) (t : TypeId) (x n : AV) : Res :=
  match x, n with
  | .ptr b o, .lit (.int _ (.ofNat (k + 1))) =>
    match T.get t, H.get b with
    | some { desc := .pointer e, .. }, some (.cells cs tb false) =>
      if liesAt P P.depth tb (cs.length / P.cellsOf tb) o e (k + 1) = true ∧ ((k + 1 : Nat) : Int) ≤ IntKind.i64.max then
        ((cut cs o (k + 1)).bind bytesOf).map fun ns => (.lit (.string (ns.foldl (fun r n => r.push (UInt8.ofNat n.toNat)) ByteArray.empty)), H.put b (some (.cells cs tb true)), nx)
      else none
    | _, _ => none
  | .lit (.pointer none), .lit (.int _ 0) => some (.lit (.string ByteArray.empty), H, nx)
  | _, _ => none

theorem unsafeStringOp_out {T : Tr TInfo} (hT : TOK P T) (g : Good σ H nx w) {t t2 ty : TypeId} {x n v : AV} {xv nv : Value} (hx : VR σ x xv) (hn : VR σ n nv) (h : unsafeStringOp P T H nx t x n = some (v, H', nx')) :
    Out P σ H nx w v H' nx' (Builtin.unsafeString_ #[t, t2] ty #[xv, nv]) := by
  unfold unsafeStringOp at h
  split at h
  · rename_i b o kk k
    split at h
    · rename_i e _ _ _ _ _ cs tb ht hb
      split at h
      · rename_i hc
        obtain ⟨hlie, hmax⟩ := hc
        simp only [Option.map_eq_some_iff, Option.bind_eq_some_iff, Prod.mk.injEq] at h
        obtain ⟨ns, ⟨vs, hcut, hns⟩, rfl, rfl, rfl⟩ := h
        simp only [VR] at hx hn
        obtain ⟨l, hl, rfl⟩ := hx
        subst hn
        obtain ⟨C, fz, hC, hC1, hC2, hC3, hC4⟩ := g.obj b _ l hb hl
        obtain ⟨xs, h1, h2, h3⟩ := g.toSim.cells hb hl hcut
        have hxs := bytesOf_ok h1 hns
        subst hxs
        have hlen : ns.length = k + 1 := by simpa using h2
        have hload := run_loadBytesI (P := P) (w := w) ns ⟨l.blk, l.base + o, none⟩ ByteArray.empty (fun j m hj => by
          have := h3 j (.int .u8 m) (by simp [hj])
          rw [← this]
          congr 1
          unfold Addr.add
          split
          · rename_i hj0; subst hj0; simp
          · rfl)
        rw [hlen] at hload
        have hlies : liesAt P P.depth tb (C.size / P.cellsOf tb) (l.base + o) e (k + 1) = true := by
          simp only [Loc.base_eq, Nat.zero_add] at hC2 ⊢
          exact liesAt_mono (Nat.div_le_div_right (by omega)) hlie
        have hsh : w.shape? l.blk = some (tb, C.size) := by simp [World.shape?, hC]
        have hund := (hT t _ ht).under
        have hms := mod_step (w' := w.freeze ⟨l.blk, l.base + o, none⟩ (k + 1)) g hb (o' := .cells cs tb true) rfl hl (by simp [World.freeze]) (fun j hj => by
            simp only [World.freeze, Nat.add_eq_zero_iff, Nat.one_ne_zero, and_false, if_false]
            rw [Array.getElem?_modify, if_neg (fun h => hj h.symm)]) (by simp [World.freeze]) (by simp [World.freeze]) (by simp [World.freeze]) (by
            refine ⟨C, (if (fz.1 == fz.2) = true then (l.base + o, l.base + o + (k + 1)) else (min fz.1 (l.base + o), max fz.2 (l.base + o + (k + 1)))), ?_, hC1, hC2, hC3, fun h => by cases h⟩
            · simp only [World.freeze, Nat.add_eq_zero_iff, Nat.one_ne_zero, and_false, if_false]
              rw [Array.getElem?_modify, if_pos rfl, hC]
              rfl)
        refine ⟨.string (ns.foldl (fun r n => r.push (UInt8.ofNat n.toNat)) ByteArray.empty), w.freeze ⟨l.blk, l.base + o, none⟩ (k + 1), σ, ?_, ?_, hms.1, hms.2⟩
        · have hdef : Builtin.unsafeString_ #[t, t2] ty #[.pointer (some ⟨l.blk, l.base + o, none⟩), .int kk (Int.ofNat (k + 1))] =
              (do
                let n ← asInt (.int kk (Int.ofNat (k + 1)))
                if n < 0 then runtimePanic (.error "unsafe.String: len out of range")
                if n > IntKind.i64.max then unsupported (.unsafePointer "String: a length above the largest int")
                if n = 0 then pure (.string .empty)
                else if ← variablesAt ⟨l.blk, l.base + o, none⟩ (← elemOf t) n.toNat then do
                  let s ← loadBytes ⟨l.blk, l.base + o, none⟩ .empty n.toNat
                  freeze ⟨l.blk, l.base + o, none⟩ n.toNat
                  pure (.string s)
                else unsupported (.unsafePointer "String: not so many bytes at ptr")) := rfl
          rw [hdef]
          have hn0 : ¬ (((k + 1 : Nat) : Int) < 0) := by omega
          have hn1 : ¬ (IntKind.i64.max < ((k + 1 : Nat) : Int)) := by omega
          have hn2 : ¬ (((k + 1 : Nat) : Int) = 0) := by omega
          have e1 : (asInt (.int kk (Int.ofNat (k + 1)))).run P w = .ok ((k + 1 : Nat) : Int) w := rfl
          rw [run_bind_ok e1]
          simp only [if_neg hn0, if_neg hn1, if_neg hn2, gt_iff_lt]
          have e2 : (elemOf t).run P w = .ok e w := by simp [elemOf, run_underlying hund]
          have e3 : (variablesAt ⟨l.blk, l.base + o, none⟩ e (k + 1)).run P w = .ok true w := by simp [variablesAt, hsh, hlies]
          simp [e2, e3, hload]
        · simp [VR]
      · cases h
    · cases h
  · simp only [Option.some.injEq, Prod.mk.injEq] at h
    obtain ⟨rfl, rfl, rfl⟩ := h
    simp only [VR] at hx hn
    subst hx; subst hn
    exact ⟨_, w, σ, rfl, rfl, Step.refl, g⟩
  · cases h
end CI
