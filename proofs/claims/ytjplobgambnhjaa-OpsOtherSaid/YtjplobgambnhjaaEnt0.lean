/- OpsEntries: its environment; no statement. -/
import Derived.Test.YtjplobgambnhjaaEcb
import Derived.Test.YtjplobgambnhjaaOsame
import Derived.Test.YtjplobgambnhjaaOworks
set_option linter.unusedVariables false
namespace Go.Proofs.Ytjplobgambnhjaa
open Go Go.Eng

def encS (a : rEntry.den) : ByteArray := bif entB a then encB a else (ByteArray.mk #[])
theorem entV_cases (a : rEntry.den) : (entB a = true ∧ entV a = 0) ∨ (entB a = false ∧ entV a = 2) := by
  unfold entV
  cases entB a
  · exact .inr ⟨rfl, rfl⟩
  · exact .inl ⟨rfl, rfl⟩
theorem encode_pure (a : rEntry.den) (hl : a.2.2.2.2.1.length ≤ 9223372036854775807) (h1 : uOk a.1 = true) (h2 : uOk a.2.1 = true) (h3 : uOk a.2.2.2.1.2.2.1 = true) (h4 : uOk a.2.2.2.1.2.2.2.1 = true) (h5 : uOk a.2.2.2.1.2.2.2.2.2.1 = true) :
    PureCall Try.prog 20 [.agg (rEntry.cells a)] (tupS (encS a) (entV a)) := by
  unfold encS
  rcases entV_cases a with ⟨e1, e2⟩ | ⟨e1, e2⟩
  · rw [e1, e2]; exact encodeW a ((ent_eb a hl e2).ew h1 h2 h3 h4 h5) e2
  · rw [e1, e2]; exact encodeN a h1 h2 e2
def encCs (a : rEntry.den) : List Bool := [decide (List.length a.2.2.2.2.1 ≤ 9223372036854775807), uOk a.1, uOk a.2.1, uOk a.2.2.2.1.2.2.1, uOk a.2.2.2.1.2.2.2.1, uOk a.2.2.2.1.2.2.2.2.2.1]
theorem encode_cs (a : rEntry.den) (hc : ∀ c ∈ encCs a, c = true) :
    PureCall Try.prog 20 [.agg (rEntry.cells a)] (tupS (encS a) (entV a)) := by
  obtain ⟨g0, hc⟩ := of_allTc hc
  obtain ⟨g1, hc⟩ := of_allTc hc
  obtain ⟨g2, hc⟩ := of_allTc hc
  obtain ⟨g3, hc⟩ := of_allTc hc
  obtain ⟨g4, hc⟩ := of_allTc hc
  obtain ⟨g5, hc⟩ := of_allTc hc
  exact encode_pure a (of_decide_eq_true g0) g1 g2 g3 g4 g5
theorem owne_pure (a : rEntry.den) (h : a.2.2.2.2.1.length * 8 ≤ 140737488355328) : PureCall Try.prog 19 [.agg (rEntry.cells a)] (.agg (rEntry.cells a)) :=
  EOs.pure_ok (os := []) (cs := [decide (a.2.2.2.2.1.length * 8 ≤ 140737488355328)]) (by kernel_rfl) (allI (by rw [decide_eq_true h]; rfl))
/-- Entries: may they be, alike, as bytes, a copy; works. -/
noncomputable def EEt : Env Try.prog := (((((EEe.addT1 20 [.agg rEntry] (fun d => tupS (encS d.1) (entV d.1)) (fun d => encCs d.1) fun d hc => (encode_cs d.1 hc)).addT1
  19 [.agg rEntry] (fun d => .agg (rEntry.cells d.1)) (fun d => [decide (List.length d.1.2.2.2.2.1 * 8 ≤ 140737488355328)]) fun d hc => owne_pure d.1 (of_decide_eq_true (of_allTc hc).1)).addT1
  18 [] (fun _ => vB true) (fun _ => []) fun _ _ => works16_pure).addT1
  27 [.agg rEntry, .agg rEntry] (fun d => vB (sameE d.1 d.2.1)) (fun _ => []) fun d _ => same_e d.1 d.2.1).addT1
  24 [.agg rEntry, .agg rEntry] (fun d => vB (sameE d.1 d.2.1)) (fun _ => []) fun d _ => rsame_e d.1 d.2.1)
end Go.Proofs.Ytjplobgambnhjaa
