/- Which operation stands where, without its text. -/
import Derived.Deep.RegionHeld3
namespace Go.Proofs.Ytojadmccenkffaa

theorem at0 {o : Oper} {t : List Oper} : (o :: t).toArray[0]? = some o := by simp
theorem atS {o x : Oper} {t : List Oper} {n : Nat} (h : t.toArray[n]? = some x) : (o :: t).toArray[n + 1]? = some x := by simpa using h
end Go.Proofs.Ytojadmccenkffaa
