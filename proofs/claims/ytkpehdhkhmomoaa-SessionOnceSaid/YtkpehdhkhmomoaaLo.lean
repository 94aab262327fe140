/- A session looked up that is laid or empty: the contract; no statement. -/
import Derived.Test.YtkpehdhkhmomoaaBk
set_option linter.unusedVariables false
namespace Go.Proofs.Ytkpehdhkhmomoaa
open Go Go.Eng

theorem look_none {n : Int} (h1 : decide (n ≥ 1) = true) (h2 : decide (n ≤ 1099511627776) = true) : PureCall Try.prog 9 [vS (ByteArray.mk #[]), vU n] (.tup [(true, [(.int .i64 (0)), (.bool false), (.str ((ByteArray.mk #[]))), (.str ((ByteArray.mk #[]))), (.int .u64 (0))]), (false, [(.bool false)]), (false, [(.int .i64 (0))])]) := by
  have g1 : (n == 0) = false := beq_eq_false_iff_ne.2 (by have := of_decide_eq_true h1; omega)
  have g2 : decide (n < 0) = false := decide_eq_false (by have := of_decide_eq_true h1; omega)
  have g3 : ((ByteArray.mk #[]).toList == (ByteArray.mk #[]).toList) = true := beq_self_eq_true _
  exact EDec.pure_ok (os := (List.replicate 3 true ++ List.replicate 1 false ++ List.replicate 6 true ++ List.replicate 1 false ++ List.replicate 5 true ++ List.replicate 2 false)) (cs := [((!true) == false), (decide (n < 0) == false), (true == true), (true == true), (true == true), (true == true), (true == true), ((n == 0) == false), (true == true), (true == true), (true == true), (true == true), (true == true), (((ByteArray.mk #[]).toList == (ByteArray.mk #[]).toList) == true), ((!decide (n ≤ 1099511627776)) == false), (decide (n ≥ 1) == true), (decide (n ≥ 1) == true), (decide (n ≥ 1) == true)]) (by kernel_rfl) (allI (by simp only [h1, h2, g1, g2, g3]; rfl))

/-- Of what is laid, or of nothing. -/
noncomputable def ELo : Env Try.prog := EPutW.addT 9 [.one .str, .one cU]
  (fun d os => brL (Nat.beq d.1.size 0) os
    (fun os => some (lookR 0 false (ByteArray.mk #[]) (ByteArray.mk #[]) 0 false 0, [decide (d.2.1 ≥ 1), decide (d.2.1 ≤ 1099511627776)], os))
    (fun os => brL (d.2.1 == numV d.1) os
      (fun os => some (lookR (IntKind.i64.wrap (numV (rR d.1))) (byteAt (tH (s1 (rR d.1))) (Int.toNat 0) == 1) (tX (s2 (rR d.1))) (tX (s3 (rR d.1))) (numV (s4 (rR d.1))) true 0, [decide (d.2.1 ≥ 1), decide (d.2.1 ≤ 1099511627776), lookF d.1, decG (rR d.1)], os))
      (fun os => brL (decide (d.2.1 < numV d.1)) os
        (fun os => some (lookR 0 false (ByteArray.mk #[]) (ByteArray.mk #[]) 0 false 12, [decide (d.2.1 ≥ 1), decide (d.2.1 ≤ 1099511627776), lookF d.1, decG (rR d.1)], os))
        (fun os => some (lookR 0 false (ByteArray.mk #[]) (ByteArray.mk #[]) 0 false 0, [decide (d.2.1 ≥ 1), decide (d.2.1 ≤ 1099511627776), lookF d.1, decG (rR d.1)], os)))))
  fun d os r cs os' h hc => by
    rcases brL_some h hc with ⟨hb, o, c, h, hc⟩ | ⟨hb, o, c, h, hc⟩
    · simp only [Option.some.injEq, Prod.mk.injEq] at h
      obtain ⟨rfl, rfl, _⟩ := h
      obtain ⟨h1, hc⟩ := of_allTc hc
      obtain ⟨h2, hc⟩ := of_allTc hc
      obtain ⟨s, n, _⟩ := d
      have e : s = ByteArray.mk #[] := by
        have h0 : s.size = 0 := by simpa using hb
        cases s with
        | mk a => cases a with | mk l => cases l with
          | nil => rfl
          | cons x xs => simp [ByteArray.size] at h0
      subst e
      exact look_none h1 h2
    · rcases brL_some h hc with ⟨hb2, o, c, h, hc⟩ | ⟨hb2, o, c, h, hc⟩
      · simp only [Option.some.injEq, Prod.mk.injEq] at h
        obtain ⟨rfl, rfl, _⟩ := h
        obtain ⟨h1, hc⟩ := of_allTc hc
        obtain ⟨h2, hc⟩ := of_allTc hc
        obtain ⟨h3, hc⟩ := of_allTc hc
        exact look_eq h3 h1 h2 (of_allTc hc).1 hb2
      · rcases brL_some h hc with ⟨hb3, o, c, h, hc⟩ | ⟨hb3, o, c, h, hc⟩
        · simp only [Option.some.injEq, Prod.mk.injEq] at h
          obtain ⟨rfl, rfl, _⟩ := h
          obtain ⟨h1, hc⟩ := of_allTc hc
          obtain ⟨h2, hc⟩ := of_allTc hc
          obtain ⟨h3, hc⟩ := of_allTc hc
          exact look_stale h3 h1 h2 (of_allTc hc).1 hb2 hb3
        · simp only [Option.some.injEq, Prod.mk.injEq] at h
          obtain ⟨rfl, rfl, _⟩ := h
          obtain ⟨h1, hc⟩ := of_allTc hc
          obtain ⟨h2, hc⟩ := of_allTc hc
          obtain ⟨h3, hc⟩ := of_allTc hc
          exact look_anew h3 h1 h2 (of_allTc hc).1 hb2 hb3
end Go.Proofs.Ytkpehdhkhmomoaa
