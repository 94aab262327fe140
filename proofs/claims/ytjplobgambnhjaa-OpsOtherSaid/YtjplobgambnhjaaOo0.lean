/- OpsOther: its environment; no statement. -/
import Derived.Test.YtjplobgambnhjaaDbr
import Derived.Test.YtjplobgambnhjaaEnt0
set_option linter.unusedVariables false
namespace Go.Proofs.Ytjplobgambnhjaa
open Go Go.Eng

def encRS (d : rRes.den) : ByteArray := bif resOk d.1 d.2.2.1 d.2.2.2.1 d.2.2.2.2.1 then encRB d.1 d.2.1 d.2.2.1 d.2.2.2.1 d.2.2.2.2.1 else (ByteArray.mk #[])
def encRE (d : rRes.den) : Int := bif resOk d.1 d.2.2.1 d.2.2.2.1 d.2.2.2.2.1 then 0 else 2
theorem encr_any (d : rRes.den) (hv : uOk d.2.2.2.2.1 = true) : PureCall Try.prog 25 [.agg (rRes.cells d)] (tupS (encRS d) (encRE d)) := by
  obtain ⟨er, fo, row, val, ver, _⟩ := d
  unfold encRS encRE
  cases h : resOk er row val ver with
  | true => exact encr_pure er fo row val ver hv h
  | false => exact encr_none er fo row val ver h
noncomputable def EEr : Env Try.prog := EEt.addT1 25 [.agg rRes] (fun d => tupS (encRS d.1) (encRE d.1)) (fun d => [uOk d.1.2.2.2.2.1]) fun d hc => encr_any d.1 (of_allTc hc).1
/-- A decoder at three texts, by the choices. -/
def threeF (x0 x1 x2 : ByteArray) (r0 r1 : AV) (args : List AV) (os : List Bool) : Option (AV × List Bool × List Bool) := match args with
  | [.one (.str x)] => match os with
    | true :: r => some (r0, [decide (x = x0)], r)
    | false :: true :: r => some (r1, [decide (x = x1)], r)
    | false :: false :: r => some (r1, [decide (x = x2)], r)
    | _ => none
  | _ => none
theorem threeF_ok {f : Nat} {x0 x1 x2 : ByteArray} {r0 r1 : AV} (h0 : PureCall Try.prog f [vS x0] r0) (h1 : PureCall Try.prog f [vS x1] r1) (h2 : PureCall Try.prog f [vS x2] r1) :
    ∀ args os r cs os', threeF x0 x1 x2 r0 r1 args os = some (r, cs, os') → (∀ c ∈ cs, c = true) → PureCall Try.prog f args r := by
  intro args os r cs os' h hc
  unfold threeF at h
  split at h
  · split at h
    · simp only [Option.some.injEq, Prod.mk.injEq] at h
      obtain ⟨rfl, rfl, rfl⟩ := h
      rw [of_decide_eq_true (of_allTc hc).1]; exact h0
    · simp only [Option.some.injEq, Prod.mk.injEq] at h
      obtain ⟨rfl, rfl, rfl⟩ := h
      rw [of_decide_eq_true (of_allTc hc).1]; exact h1
    · simp only [Option.some.injEq, Prod.mk.injEq] at h
      obtain ⟨rfl, rfl, rfl⟩ := h
      rw [of_decide_eq_true (of_allTc hc).1]; exact h2
    · cases h
  · cases h
abbrev DFe (e : rEntry.den) : Prop := PureCall Try.prog 32 [vS (encB e)] (tupE e 0) ∧ PureCall Try.prog 32 [vS (encB e ++ (ByteArray.mk #[0]))] (tupE eZ 4) ∧ PureCall Try.prog 32 [vS ((encB e).extract 0 ((encB e).size - 1))] (tupE eZ 4) ∧ 0 < (encB e).size ∧ (encB e).size ≤ 100100000
abbrev DFr (d : rRes.den) : Prop := PureCall Try.prog 33 [vS (encRS d)] (tupR d 0) ∧ PureCall Try.prog 33 [vS (encRS d ++ (ByteArray.mk #[0]))] (tupR rZ 4) ∧ PureCall Try.prog 33 [vS ((encRS d).extract 0 ((encRS d).size - 1))] (tupR rZ 4) ∧ 0 < (encRS d).size ∧ (encRS d).size ≤ 1000000
noncomputable def addDe (E : Env Try.prog) (e : rEntry.den) (h : DFe e) : Env Try.prog := E.addP 32 (threeF (encB e) (encB e ++ (ByteArray.mk #[0])) ((encB e).extract 0 ((encB e).size - 1)) (tupE e 0) (tupE eZ 4)) (threeF_ok h.1 h.2.1 h.2.2.1)
noncomputable def addDr (E : Env Try.prog) (d : rRes.den) (h : DFr d) : Env Try.prog := E.addP 33 (threeF (encRS d) (encRS d ++ (ByteArray.mk #[0])) ((encRS d).extract 0 ((encRS d).size - 1)) (tupR d 0) (tupR rZ 4)) (threeF_ok h.1 h.2.1 h.2.2.1)
end Go.Proofs.Ytjplobgambnhjaa
