/- Laws of the small machine and of how it stands to the model; a helper of the statements: no statement is proved here. -/
import Derived.Test.YteiabdbkeanldaaS9
namespace Go.Proofs.Yteiabdbkeanldaa.Lvm
set_option linter.unusedVariables false
section
variable {E : Env} {B : Nat} {inj : Inj} {st st' : LSt} {w : World} {fr : LFr} {a : Act} {lo : Nat}
theorem lookupL_sound (hE : E.Ok) (hm : Emb E B inj st w) {t : TypeId} {x k z : LV} {v kv : Value} {ok : Bool} (h : lookupL E st t x k ok = some z) (hx : VRel inj x v) (hk : VRel inj k kv) :
    ValOut E inj z w (Instr.lookup t v kv ok) := by cases h
theorem mapSetL_sound (hE : E.Ok) (hm : Emb E B inj st w) {t : TypeId} {x k y : LV} {v kv u : Value} (h : mapSetL E lo st t x k y = some st') (hx : VRel inj x v) (hk : VRel inj k kv) (hy : VRel inj y u) :
    StoreOut E inj lo st w st' (Instr.mapUpdate t v kv u) := by cases h
end
end Go.Proofs.Yteiabdbkeanldaa.Lvm
