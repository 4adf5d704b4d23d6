/-
  THE KNOWN CALLS OF THIS PROGRAM: what an entry is to answer.
-/
import Derived.Test.YtecogacajmimhaaGreatDoorM1
import Derived.Test.YtecogacajmimhaaGreatDoorRows
namespace Go.Abs
open Go.Proofs

noncomputable def kc (es : List Ent) : Caller := callF Tryz.prog (runM Tryz.prog (memo es) 100000)
noncomputable def Ent.ok (e : Ent) (es : List Ent) : Bool := e.check (kc es e.f e.args e.small)

section
variable {X : Nat → Option Value}
theorem kc_good (hX : ∀ k r, X k = some r → scalar r = true) (hcl : CloneOk Tryz.prog) (hmix : Tryz.prog.follows .mixedOrders = true) {es : List Ent} (hes : ∀ e ∈ es, Known Tryz.prog X e) : CGood Tryz.prog X (kc es) :=
  callF_good (run_good hX hcl hmix (fun _ h => memo_good h es hes) 100000)
theorem known_of (hX : ∀ k r, X k = some r → scalar r = true) (hcl : CloneOk Tryz.prog) (hmix : Tryz.prog.follows .mixedOrders = true) {es : List Ent} (hes : ∀ e ∈ es, Known Tryz.prog X e) {e : Ent} (h : e.ok es = true) : Known Tryz.prog X e :=
  ⟨kc es, kc_good hX hcl hmix hes, h⟩
end
end Go.Abs
