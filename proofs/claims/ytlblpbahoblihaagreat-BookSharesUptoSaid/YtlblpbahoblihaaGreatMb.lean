/-
  The document's answers: profiles. Plain theorems.
-/
import Derived.Test.YtlblpbahoblihaaGreatMa
set_option linter.unusedSectionVars false
set_option maxRecDepth 100000
set_option maxHeartbeats 8000000
set_option linter.unusedVariables false
set_option linter.unusedSimpArgs false
namespace Go.Proofs.YtlblpbahoblihaaGreat.Sy
open Go Go.Sy Go.Proofs.YtlblpbahoblihaaGreat
end Go.Proofs.YtlblpbahoblihaaGreat.Sy
namespace Go.Proofs.YtlblpbahoblihaaGreat.Sy
open Go Go.Sy Go.Proofs.YtlblpbahoblihaaGreat
end Go.Proofs.YtlblpbahoblihaaGreat.Sy
namespace Go.Proofs.YtlblpbahoblihaaGreat.Sy
open Go Go.Sy Go.Proofs.YtlblpbahoblihaaGreat
end Go.Proofs.YtlblpbahoblihaaGreat.Sy
namespace Go.Proofs.YtlblpbahoblihaaGreat.Sy
open Go Go.Sy Go.Proofs.YtlblpbahoblihaaGreat
end Go.Proofs.YtlblpbahoblihaaGreat.Sy
namespace Go.Proofs.YtlblpbahoblihaaGreat.Sy
open Go Go.Sy Go.Proofs.YtlblpbahoblihaaGreat
end Go.Proofs.YtlblpbahoblihaaGreat.Sy
namespace Go.Proofs.YtlblpbahoblihaaGreat.Sy
open Go Go.Sy Go.Proofs.YtlblpbahoblihaaGreat
end Go.Proofs.YtlblpbahoblihaaGreat.Sy
namespace Go.Proofs.YtlblpbahoblihaaGreat.Sy
open Go Go.Sy Go.Proofs.YtlblpbahoblihaaGreat
end Go.Proofs.YtlblpbahoblihaaGreat.Sy
namespace Go.Proofs.YtlblpbahoblihaaGreat.Sy
open Go Go.Sy Go.Proofs.YtlblpbahoblihaaGreat
end Go.Proofs.YtlblpbahoblihaaGreat.Sy
namespace Go.Proofs.YtlblpbahoblihaaGreat.Sy
open Go Go.Sy Go.Proofs.YtlblpbahoblihaaGreat
structure Fil where
  total : S4
  wants : List Want
  left : List Part
  have_ : List S4
  ver : Nat
theorem upLr : ∀ l : List OX, upL l l
  | [] => trivial
  | a :: l => ⟨fun c => upO_refl _, upLr l⟩
theorem FinX_bOr {r : Bool} {x : BX} {O O' : List OX} (h : x.val = r) (hO : O' = O) : FinX (xb r) O (.b x) O' := by
  subst hO
  exact ⟨fun _ => by simp only [X.toD, h]; rfl, upLr _⟩
def Fil.need (f : Fil) (i : Int) : List Part := (f.wants.getD i.toNat default).need
def setH (f : Fil) (i : Int) : List S4 := f.have_.set i.toNat (sumsAdd (f.have_.getD i.toNat default) (sumsOf (f.need i))).1
end Go.Proofs.YtlblpbahoblihaaGreat.Sy
namespace Go.Proofs.YtlblpbahoblihaaGreat.Sy
open Go Go.Sy Go.Proofs.YtlblpbahoblihaaGreat
end Go.Proofs.YtlblpbahoblihaaGreat.Sy
namespace Go.Proofs.YtlblpbahoblihaaGreat.Sy
open Go Go.Sy Go.Proofs.YtlblpbahoblihaaGreat
end Go.Proofs.YtlblpbahoblihaaGreat.Sy
namespace Go.Proofs.YtlblpbahoblihaaGreat.Sy
open Go Go.Sy Go.Proofs.YtlblpbahoblihaaGreat
theorem FinX_iOr {r : Int} {x : IX} {O O' : List OX} (h : x.val = r) (hO : O' = O) : FinX (xi r) O (.i .i64 x) O' := by
  subst hO
  exact ⟨fun _ => by simp only [X.toD, h]; rfl, upLr _⟩
end Go.Proofs.YtlblpbahoblihaaGreat.Sy
