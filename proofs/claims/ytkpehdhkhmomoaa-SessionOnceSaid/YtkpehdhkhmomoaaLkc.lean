/- A session looked up: the contract; what is read of laid bytes; no statement. -/
import Derived.Test.YtkpehdhkhmomoaaLk
set_option linter.unusedVariables false
namespace Go.Proofs.Ytkpehdhkhmomoaa
open Go Go.Eng

abbrev lookR (e : Int) (f : Bool) (row val : ByteArray) (ver : Int) (a : Bool) (c : Int) : AV := .tup [(true, [.int .i64 e, .bool f, .str row, .str val, .int .u64 ver]), (false, [.bool a]), (false, [.int .i64 c])]
noncomputable def ELk : Env Try.prog := EDec.addT 9 [.one .str, .one cU]
  (fun d os => brL (decG (rR d.1)) os
    (fun os => brL (d.2.1 == numV d.1) os
      (fun os => some (lookR (IntKind.i64.wrap (numV (rR d.1))) (byteAt (tH (s1 (rR d.1))) (Int.toNat 0) == 1) (tX (s2 (rR d.1))) (tX (s3 (rR d.1))) (numV (s4 (rR d.1))) true 0, [decide (d.2.1 ≥ 1), decide (d.2.1 ≤ 1099511627776), lookF d.1], os))
      (fun os => brL (decide (d.2.1 < numV d.1)) os
        (fun os => some (lookR 0 false (ByteArray.mk #[]) (ByteArray.mk #[]) 0 false 12, [decide (d.2.1 ≥ 1), decide (d.2.1 ≤ 1099511627776), lookF d.1], os))
        (fun os => some (lookR 0 false (ByteArray.mk #[]) (ByteArray.mk #[]) 0 false 0, [decide (d.2.1 ≥ 1), decide (d.2.1 ≤ 1099511627776), lookF d.1], os))))
    (fun os => some (lookR 0 false (ByteArray.mk #[]) (ByteArray.mk #[]) 0 false 4, [decide (d.2.1 ≥ 1), decide (d.2.1 ≤ 1099511627776), lookF d.1, decL (rR d.1) || decC (rR d.1)], os)))
  fun d os r cs os' h hc => by
    rcases brL_some h hc with ⟨hb, o, c, h, hc⟩ | ⟨hb, o, c, h, hc⟩
    · rcases brL_some h hc with ⟨hb2, o, c, h, hc⟩ | ⟨hb2, o, c, h, hc⟩
      · simp only [Option.some.injEq, Prod.mk.injEq] at h
        obtain ⟨rfl, rfl, _⟩ := h
        obtain ⟨h1, hc⟩ := of_allTc hc
        obtain ⟨h2, hc⟩ := of_allTc hc
        exact look_eq (of_allTc hc).1 h1 h2 hb hb2
      · rcases brL_some h hc with ⟨hb3, o, c, h, hc⟩ | ⟨hb3, o, c, h, hc⟩
        · simp only [Option.some.injEq, Prod.mk.injEq] at h
          obtain ⟨rfl, rfl, _⟩ := h
          obtain ⟨h1, hc⟩ := of_allTc hc
          obtain ⟨h2, hc⟩ := of_allTc hc
          exact look_stale (of_allTc hc).1 h1 h2 hb hb2 hb3
        · simp only [Option.some.injEq, Prod.mk.injEq] at h
          obtain ⟨rfl, rfl, _⟩ := h
          obtain ⟨h1, hc⟩ := of_allTc hc
          obtain ⟨h2, hc⟩ := of_allTc hc
          exact look_anew (of_allTc hc).1 h1 h2 hb hb2 hb3
    · simp only [Option.some.injEq, Prod.mk.injEq] at h
      obtain ⟨rfl, rfl, _⟩ := h
      obtain ⟨h1, hc⟩ := of_allTc hc
      obtain ⟨h2, hc⟩ := of_allTc hc
      obtain ⟨h3, hc⟩ := of_allTc hc
      exact look_form h3 h1 h2 hb (of_allTc hc).1

/-- What is read of laid bytes. -/
theorem ext_right (a b : ByteArray) (k : Nat) (hk : k = a.size) : (a ++ b).extract k (zS (a ++ b)) = b := by
  rw [zS_eq]; exact ByteArray.extract_append_eq_right hk (by rw [ByteArray.size_append])
theorem ext_left (a b : ByteArray) (k : Nat) (hk : k = a.size) : (a ++ b).extract (Int.toNat 0) k = a := ByteArray.extract_append_eq_left hk
theorem nS_V {v : Int} (h0 : 0 ≤ v) (h : v < 18446744073709551616) (rest : ByteArray) : numV (nS v ++ rest) = v := by
  unfold numV nS
  rw [num_back (by omega) rest]; simp only; omega
theorem nS_N {v : Int} (h0 : 0 ≤ v) (h : v < 18446744073709551616) (rest : ByteArray) : numN (nS v ++ rest) = (((nS v).size : Nat) : Int) := by
  unfold numN nS
  rw [num_back (by omega) rest, strOfNums_size]
theorem nS_pos (v : Int) : 1 ≤ (nS v).size := by unfold nS numB; rw [strOfNums_size, List.length_append]; simp
theorem nS_s1 {v : Int} (h0 : 0 ≤ v) (h : v < 18446744073709551616) (rest : ByteArray) : s1 (nS v ++ rest) = rest := by
  unfold s1
  rw [nS_N h0 h]; exact ext_right _ _ _ (by omega)
theorem wrapLen {b : ByteArray} (h : b.size ≤ 65536) : IntKind.u64.wrap ((b.size : Nat) : Int) = ((b.size : Nat) : Int) := wrapU64 (by omega) (by omega)
theorem tS_facts {b : ByteArray} (h : b.size ≤ 65536) (rest : ByteArray) : tOk (tS b ++ rest) = true ∧ tX (tS b ++ rest) = b ∧ (tS b ++ rest).extract (tL (tS b ++ rest)).toNat (zS (tS b ++ rest)) = rest := by
  have e : tS b ++ rest = nS ((b.size : Nat) : Int) ++ (b ++ rest) := by unfold tS; rw [wrapLen h, ByteArray.append_assoc]
  have ht : tS b = nS ((b.size : Nat) : Int) ++ b := by unfold tS; rw [wrapLen h]
  have hV : numV (tS b ++ rest) = ((b.size : Nat) : Int) := by rw [e]; exact nS_V (by omega) (by omega) _
  have hN : numN (tS b ++ rest) = (((nS ((b.size : Nat) : Int)).size : Nat) : Int) := by rw [e]; exact nS_N (by omega) (by omega) _
  have hp := nS_pos ((b.size : Nat) : Int)
  have hz := nS_size ((b.size : Nat) : Int)
  have hL : tL (tS b ++ rest) = (((tS b).size : Nat) : Int) := by
    unfold tL
    rw [hV, hN, wrap64 (n := ((b.size : Nat) : Int)) (by omega) (by omega), wrap64 (by omega) (by omega), ht, ByteArray.size_append]; omega
  have hT : tT (tS b ++ rest) = tS b := by
    unfold tT
    rw [hL]; exact ext_left _ _ _ (by omega)
  refine ⟨?_, ?_, ?_⟩
  · unfold tOk
    rw [hV, hN]
    have hs : (tS b ++ rest).size = (nS ((b.size : Nat) : Int)).size + (b.size + rest.size) := by rw [e, ByteArray.size_append, ByteArray.size_append]
    rw [hs]
    simp only [Bool.and_eq_true, Bool.not_eq_true', beq_eq_false_iff_ne, decide_eq_true_eq, ne_eq]
    omega
  · unfold tX
    rw [hT, hN, ht]; exact ext_right _ _ _ (by omega)
  · rw [hL]; exact ext_right _ _ _ (by omega)
end Go.Proofs.Ytkpehdhkhmomoaa
