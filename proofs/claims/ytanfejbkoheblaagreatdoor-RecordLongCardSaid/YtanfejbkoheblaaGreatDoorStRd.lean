/- record.Read, walked. Its lines for the single fields are printed by wip/tools/gen_rd.py. -/
import Derived.Test.YtanfejbkoheblaaGreatDoorStM3
import Derived.Test.YtanfejbkoheblaaGreatDoorStM14
set_option linter.unusedVariables false
set_option linter.unusedSimpArgs false
set_option maxRecDepth 10000
namespace CI
open Go
namespace Seat
open Quo Rcd Spl
variable {H : Heap} {nx : Nat}
def Sh (q : Q) : Prop := ∀ w ∈ q.1, w.length ≤ 1000000
theorem Sh.is {q : Q} (h : Sh q) (s : W) : Sh (isQ s q) := (nextQ_len h).2
theorem Sh.num {q : Q} (h : Sh q) : Sh (numQ q).2 := (nextQ_len h).2
theorem Sh.bytes {q : Q} (h : Sh q) : Sh (bytesQ q).2 := (nextQ_len h).2
theorem Sh.flag {q : Q} (h : Sh q) : Sh (flagQ q).2 := (nextQ_len h).2
theorem Sh.kind {q : Q} (h : Sh q) : Sh (kindS q).2 := (nextQ_len h).2
theorem FrP.toO {n0 p : Nat} {H' : Heap} {nx' : Nat} (h : FrP p H nx H' nx') (hn : n0 ≤ nx) (hp : n0 ≤ p) (hfr : ∀ b, nx ≤ b → H.get b = none) : FrO n0 H nx H' nx' :=
  ⟨h.le, fun c hc => h.old c (by omega) (by omega), h.fr hfr⟩
theorem FrO.put {n0 p : Nat} (hp : n0 ≤ p) (hp2 : p < nx) (hfr : ∀ b, nx ≤ b → H.get b = none) (ob : Option AObj) : FrO n0 H nx (H.put p ob) nx :=
  ⟨Nat.le_refl _, fun c hc => Tr.get_put_ne _ _ _ _ (by omega), fun b hb => by rw [Tr.get_put_ne _ _ _ _ (by omega)]; exact hfr b hb⟩
end Seat
end CI
