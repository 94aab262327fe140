/- An entry's bytes; no statement. -/
import Derived.Test.YtjplobgambnhjaaEev
set_option linter.unusedVariables false
set_option linter.unusedSimpArgs false
set_option maxRecDepth 100000
namespace Go.Proofs.Ytjplobgambnhjaa
open Go Go.Eng

abbrev tupS (s : ByteArray) (c : Int) : AV := .tup [(false, [.str s]), (false, [.int .i64 c])]
def memB (l : List Int) : ByteArray := nS (wU ((l.length : Nat) : Int)) ++ l.foldr (fun n r => nS (wU n) ++ r) (ByteArray.mk #[])
def cmdD (q : rCmd.den) : ByteArray := cmdB q.1 q.2.1 q.2.2.1 q.2.2.2.1 (opB q.2.2.2.2.1.1 q.2.2.2.2.1.2.1 q.2.2.2.2.1.2.2.1 q.2.2.2.2.1.2.2.2.1 q.2.2.2.2.1.2.2.2.2.1 q.2.2.2.2.1.2.2.2.2.2.1) q.2.2.2.2.2.1 q.2.2.2.2.2.2.1 q.2.2.2.2.2.2.2.1 q.2.2.2.2.2.2.2.2.1 q.2.2.2.2.2.2.2.2.2.1 q.2.2.2.2.2.2.2.2.2.2.1.1 q.2.2.2.2.2.2.2.2.2.2.1.2.1 q.2.2.2.2.2.2.2.2.2.2.1.2.2.1 q.2.2.2.2.2.2.2.2.2.2.1.2.2.2.1 q.2.2.2.2.2.2.2.2.2.2.1.2.2.2.2.1
def encB (a : rEntry.den) : ByteArray := nS a.1 ++ (nS a.2.1 ++ (nS (wU a.2.2.1) ++ (cmdD a.2.2.2.1 ++ memB a.2.2.2.2.1)))
theorem appEmpty (x : ByteArray) : x ++ (ByteArray.mk #[]) = x := by
  apply ByteArray.ext
  simp [ByteArray.data_append]
theorem emptyApp' (x : ByteArray) : (ByteArray.mk #[]) ++ x = x := emptyApp x
structure CW (q : rCmd.den) : Prop where
  ick : iOk q.1 = true
  icl : iOk q.2.1 = true
  usq : uOk q.2.2.1 = true
  uep : uOk q.2.2.2.1 = true
  iok : iOk q.2.2.2.2.1.1 = true
  upr : uOk q.2.2.2.2.2.1 = true
  ist : iOk q.2.2.2.2.2.2.1 = true
  igr : iOk q.2.2.2.2.2.2.2.2.2.1 = true
  iwg : iOk q.2.2.2.2.2.2.2.2.2.2.1.2.1 = true
  iwi : iOk q.2.2.2.2.2.2.2.2.2.2.1.2.2.2.1 = true
  iwo : iOk q.2.2.2.2.2.2.2.2.2.2.1.2.2.2.2.1 = true
  sz : ByteArray.size q.2.2.2.2.1.2.1 + ByteArray.size q.2.2.2.2.1.2.2.1 + ByteArray.size q.2.2.2.2.1.2.2.2.1 + ByteArray.size q.2.2.2.2.1.2.2.2.2.2.1 + ByteArray.size q.2.2.2.2.2.2.2.1 + ByteArray.size q.2.2.2.2.2.2.2.2.1 + ByteArray.size q.2.2.2.2.2.2.2.2.2.2.1.2.2.1 ≤ 100000000
structure EW (a : rEntry.den) : Prop where
  uix : uOk a.1 = true
  utm : uOk a.2.1 = true
  ikd : iOk a.2.2.1 = true
  cw : CW a.2.2.2.1
  len : a.2.2.2.2.1.length ≤ 5
  il : ∀ n ∈ a.2.2.2.2.1, iOk n = true
theorem cmdD_size (q : rCmd.den) (h : CW q) : (cmdD q).size ≤ 100001000 := by
  have h1 := h.sz
  have h2 := cmdB_size q.1 q.2.1 q.2.2.1 q.2.2.2.1 (opB q.2.2.2.2.1.1 q.2.2.2.2.1.2.1 q.2.2.2.2.1.2.2.1 q.2.2.2.2.1.2.2.2.1 q.2.2.2.2.1.2.2.2.2.1 q.2.2.2.2.1.2.2.2.2.2.1) q.2.2.2.2.2.1 q.2.2.2.2.2.2.1 q.2.2.2.2.2.2.2.1 q.2.2.2.2.2.2.2.2.1 q.2.2.2.2.2.2.2.2.2.1 q.2.2.2.2.2.2.2.2.2.2.1.1 q.2.2.2.2.2.2.2.2.2.2.1.2.1 q.2.2.2.2.2.2.2.2.2.2.1.2.2.1 q.2.2.2.2.2.2.2.2.2.2.1.2.2.2.1 q.2.2.2.2.2.2.2.2.2.2.1.2.2.2.2.1
  have h3 := opB_size q.2.2.2.2.1.1 q.2.2.2.2.1.2.1 q.2.2.2.2.1.2.2.1 q.2.2.2.2.1.2.2.2.1 q.2.2.2.2.1.2.2.2.2.1 q.2.2.2.2.1.2.2.2.2.2.1
  show (cmdB _ _ _ _ _ _ _ _ _ _ _ _ _ _ _).size ≤ _
  omega

theorem enc_w0 (ix tm kd ck cl sq ep ok pr st gr wg wi wo  : Int) (r c v x key val wk : ByteArray) (has mv : Bool) (h : EW (ix, tm, kd, (ck, cl, sq, ep, (ok, r, c, v, has, x, ()), pr, st, key, val, gr, (mv, wg, wk, wi, wo, ()), ()), ([] : List Int), ())) (h0 : entV (ix, tm, kd, (ck, cl, sq, ep, (ok, r, c, v, has, x, ()), pr, st, key, val, gr, (mv, wg, wk, wi, wo, ()), ()), ([] : List Int), ()) = 0) : PureCall Try.prog 20 [.agg (rEntry.cells (ix, tm, kd, (ck, cl, sq, ep, (ok, r, c, v, has, x, ()), pr, st, key, val, gr, (mv, wg, wk, wi, wo, ()), ()), ([] : List Int), ()))] (tupS (encB (ix, tm, kd, (ck, cl, sq, ep, (ok, r, c, v, has, x, ()), pr, st, key, val, gr, (mv, wg, wk, wi, wo, ()), ()), ([] : List Int), ())) 0) := by
  obtain ⟨uix, utm, ikd, ⟨ick, icl, usq, uep, iok, upr, ist, igr, iwg, iwi, iwo, sz⟩, hlen, il⟩ := h
  simp only at uix utm ikd ick icl usq uep iok upr ist igr iwg iwi iwo sz hlen
  have hc := cmdD_size (ck, cl, sq, ep, (ok, r, c, v, has, x, ()), pr, st, key, val, gr, (mv, wg, wk, wi, wo, ()), ()) ⟨ick, icl, usq, uep, iok, upr, ist, igr, iwg, iwi, iwo, sz⟩
  have hc : (cmdB ck cl sq ep (opB ok r c v has x) pr st key val gr mv wg wk wi wo).size ≤ 100001000 := hc
  have f0 := nS_size ix; have f1 := nS_size tm; have f2 := nS_size (IntKind.u64.wrap kd); have f3 := nS_size (IntKind.u64.wrap 0); have z0 : (ByteArray.mk #[]).size = 0 := rfl
  have p1 : decide ((0 : Int) ≤ ix) = true := by simp only [uOk, Bool.and_eq_true] at uix; exact uix.1
  have p2 : decide ((0 : Int) ≤ tm) = true := by simp only [uOk, Bool.and_eq_true] at utm; exact utm.1
  refine PureCall.res (EEe.pure_ok (os := [false]) (r := (.tup [(false, [(.str ((ByteArray.mk #[]) ++ nS ix ++ nS tm ++ nS (IntKind.u64.wrap kd) ++ cmdB ck cl sq ep (opB ok r c v has x) pr st key val gr mv wg wk wi wo ++ nS (IntKind.u64.wrap 0)))]), (false, [(.int .i64 (0))])])) (cs := [(uOk (IntKind.u64.wrap 0)), (room ((ByteArray.mk #[]) ++ nS ix ++ nS tm ++ nS (IntKind.u64.wrap kd) ++ cmdB ck cl sq ep (opB ok r c v has x) pr st key val gr mv wg wk wi wo) 20), (decide (73 = 73 ∧ 75 = 75 ∧ 77 = 77)), (iOk ck), (iOk cl), (iOk ok), (iOk st), (iOk gr), (iOk wg), (iOk wi), (iOk wo), (uOk sq), (uOk ep), (uOk pr), (room ((ByteArray.mk #[]) ++ nS ix ++ nS tm ++ nS (IntKind.u64.wrap kd)) (r.size + c.size + v.size + x.size + key.size + val.size + wk.size + 600)), (uOk (IntKind.u64.wrap kd)), (room ((ByteArray.mk #[]) ++ nS ix ++ nS tm) 20), (uOk tm), (room ((ByteArray.mk #[]) ++ nS ix) 20), (uOk ix), true, ((entV (ix, tm, kd, (ck, cl, sq, ep, (ok, r, c, v, has, x, ()), pr, st, key, val, gr, (mv, wg, wk, wi, wo, ()), ()), [], ()) != 0) == false)]) (by kernel_rfl) (allI ?_)) ?_
  · rw [h0]
    simp only [uOk_wrap, wB ikd, uix, utm, ikd, ick, icl, usq, uep, iok, upr, ist, igr, iwg, iwi, iwo, p1, p2, room, List.all_cons, List.all_nil, Bool.and_true, Bool.and_eq_true, decide_eq_true_eq, ByteArray.size_append]
    and_intros <;> (first | exact True.intro | rfl | omega)
  · show tupS _ _ = tupS _ _
    congr 1
    simp only [encB, cmdD, memB, List.length_cons, List.length_nil, List.foldr_cons, List.foldr_nil, emptyApp', appEmpty, ByteArray.append_assoc, wU]
    try rfl
theorem enc_w1 (ix tm kd ck cl sq ep ok pr st gr wg wi wo a0 : Int) (r c v x key val wk : ByteArray) (has mv : Bool) (h : EW (ix, tm, kd, (ck, cl, sq, ep, (ok, r, c, v, has, x, ()), pr, st, key, val, gr, (mv, wg, wk, wi, wo, ()), ()), [a0], ())) (h0 : entV (ix, tm, kd, (ck, cl, sq, ep, (ok, r, c, v, has, x, ()), pr, st, key, val, gr, (mv, wg, wk, wi, wo, ()), ()), [a0], ()) = 0) : PureCall Try.prog 20 [.agg (rEntry.cells (ix, tm, kd, (ck, cl, sq, ep, (ok, r, c, v, has, x, ()), pr, st, key, val, gr, (mv, wg, wk, wi, wo, ()), ()), [a0], ()))] (tupS (encB (ix, tm, kd, (ck, cl, sq, ep, (ok, r, c, v, has, x, ()), pr, st, key, val, gr, (mv, wg, wk, wi, wo, ()), ()), [a0], ())) 0) := by
  obtain ⟨uix, utm, ikd, ⟨ick, icl, usq, uep, iok, upr, ist, igr, iwg, iwi, iwo, sz⟩, hlen, il⟩ := h
  simp only at uix utm ikd ick icl usq uep iok upr ist igr iwg iwi iwo sz hlen
  have w0 := wB (il a0 (by simp))
  have m0 := nS_size (IntKind.u64.wrap a0)
  have hc := cmdD_size (ck, cl, sq, ep, (ok, r, c, v, has, x, ()), pr, st, key, val, gr, (mv, wg, wk, wi, wo, ()), ()) ⟨ick, icl, usq, uep, iok, upr, ist, igr, iwg, iwi, iwo, sz⟩
  have hc : (cmdB ck cl sq ep (opB ok r c v has x) pr st key val gr mv wg wk wi wo).size ≤ 100001000 := hc
  have f0 := nS_size ix; have f1 := nS_size tm; have f2 := nS_size (IntKind.u64.wrap kd); have f3 := nS_size (IntKind.u64.wrap 1); have z0 : (ByteArray.mk #[]).size = 0 := rfl
  have p1 : decide ((0 : Int) ≤ ix) = true := by simp only [uOk, Bool.and_eq_true] at uix; exact uix.1
  have p2 : decide ((0 : Int) ≤ tm) = true := by simp only [uOk, Bool.and_eq_true] at utm; exact utm.1
  refine PureCall.res (EEe.pure_ok (os := [false]) (r := (.tup [(false, [(.str ((ByteArray.mk #[]) ++ nS ix ++ nS tm ++ nS (IntKind.u64.wrap kd) ++ cmdB ck cl sq ep (opB ok r c v has x) pr st key val gr mv wg wk wi wo ++ nS (IntKind.u64.wrap 1) ++ nS (IntKind.u64.wrap (a0))))]), (false, [(.int .i64 (0))])])) (cs := [(decide (IntKind.i64.wrap (IntKind.u64.wrap (a0)) = a0)), (uOk (IntKind.u64.wrap (a0))), (room ((ByteArray.mk #[]) ++ nS ix ++ nS tm ++ nS (IntKind.u64.wrap kd) ++ cmdB ck cl sq ep (opB ok r c v has x) pr st key val gr mv wg wk wi wo ++ nS (IntKind.u64.wrap 1)) 20), (inB (0) 1), (uOk (IntKind.u64.wrap 1)), (room ((ByteArray.mk #[]) ++ nS ix ++ nS tm ++ nS (IntKind.u64.wrap kd) ++ cmdB ck cl sq ep (opB ok r c v has x) pr st key val gr mv wg wk wi wo) 20), (decide (73 = 73 ∧ 75 = 75 ∧ 77 = 77)), (iOk ck), (iOk cl), (iOk ok), (iOk st), (iOk gr), (iOk wg), (iOk wi), (iOk wo), (uOk sq), (uOk ep), (uOk pr), (room ((ByteArray.mk #[]) ++ nS ix ++ nS tm ++ nS (IntKind.u64.wrap kd)) (r.size + c.size + v.size + x.size + key.size + val.size + wk.size + 600)), (uOk (IntKind.u64.wrap kd)), (room ((ByteArray.mk #[]) ++ nS ix ++ nS tm) 20), (uOk tm), (room ((ByteArray.mk #[]) ++ nS ix) 20), (uOk ix), true, ((entV (ix, tm, kd, (ck, cl, sq, ep, (ok, r, c, v, has, x, ()), pr, st, key, val, gr, (mv, wg, wk, wi, wo, ()), ()), [a0], ()) != 0) == false)]) (by kernel_rfl) (allI ?_)) ?_
  · rw [h0]
    simp only [uOk_wrap, wB ikd, w0, uix, utm, ikd, ick, icl, usq, uep, iok, upr, ist, igr, iwg, iwi, iwo, p1, p2, room, List.all_cons, List.all_nil, Bool.and_true, Bool.and_eq_true, decide_eq_true_eq, ByteArray.size_append]
    and_intros <;> (first | exact True.intro | rfl | omega)
  · show tupS _ _ = tupS _ _
    congr 1
    simp only [encB, cmdD, memB, List.length_cons, List.length_nil, List.foldr_cons, List.foldr_nil, emptyApp', appEmpty, ByteArray.append_assoc, wU]
    try rfl
theorem enc_w2 (ix tm kd ck cl sq ep ok pr st gr wg wi wo a0 a1 : Int) (r c v x key val wk : ByteArray) (has mv : Bool) (h : EW (ix, tm, kd, (ck, cl, sq, ep, (ok, r, c, v, has, x, ()), pr, st, key, val, gr, (mv, wg, wk, wi, wo, ()), ()), [a0, a1], ())) (h0 : entV (ix, tm, kd, (ck, cl, sq, ep, (ok, r, c, v, has, x, ()), pr, st, key, val, gr, (mv, wg, wk, wi, wo, ()), ()), [a0, a1], ()) = 0) : PureCall Try.prog 20 [.agg (rEntry.cells (ix, tm, kd, (ck, cl, sq, ep, (ok, r, c, v, has, x, ()), pr, st, key, val, gr, (mv, wg, wk, wi, wo, ()), ()), [a0, a1], ()))] (tupS (encB (ix, tm, kd, (ck, cl, sq, ep, (ok, r, c, v, has, x, ()), pr, st, key, val, gr, (mv, wg, wk, wi, wo, ()), ()), [a0, a1], ())) 0) := by
  obtain ⟨uix, utm, ikd, ⟨ick, icl, usq, uep, iok, upr, ist, igr, iwg, iwi, iwo, sz⟩, hlen, il⟩ := h
  simp only at uix utm ikd ick icl usq uep iok upr ist igr iwg iwi iwo sz hlen
  have w0 := wB (il a0 (by simp))
  have m0 := nS_size (IntKind.u64.wrap a0)
  have w1 := wB (il a1 (by simp))
  have m1 := nS_size (IntKind.u64.wrap a1)
  have hc := cmdD_size (ck, cl, sq, ep, (ok, r, c, v, has, x, ()), pr, st, key, val, gr, (mv, wg, wk, wi, wo, ()), ()) ⟨ick, icl, usq, uep, iok, upr, ist, igr, iwg, iwi, iwo, sz⟩
  have hc : (cmdB ck cl sq ep (opB ok r c v has x) pr st key val gr mv wg wk wi wo).size ≤ 100001000 := hc
  have f0 := nS_size ix; have f1 := nS_size tm; have f2 := nS_size (IntKind.u64.wrap kd); have f3 := nS_size (IntKind.u64.wrap 2); have z0 : (ByteArray.mk #[]).size = 0 := rfl
  have p1 : decide ((0 : Int) ≤ ix) = true := by simp only [uOk, Bool.and_eq_true] at uix; exact uix.1
  have p2 : decide ((0 : Int) ≤ tm) = true := by simp only [uOk, Bool.and_eq_true] at utm; exact utm.1
  refine PureCall.res (EEe.pure_ok (os := [false]) (r := (.tup [(false, [(.str ((ByteArray.mk #[]) ++ nS ix ++ nS tm ++ nS (IntKind.u64.wrap kd) ++ cmdB ck cl sq ep (opB ok r c v has x) pr st key val gr mv wg wk wi wo ++ nS (IntKind.u64.wrap 2) ++ nS (IntKind.u64.wrap (a0)) ++ nS (IntKind.u64.wrap (a1))))]), (false, [(.int .i64 (0))])])) (cs := [(decide (IntKind.i64.wrap (IntKind.u64.wrap (a1)) = a1)), (uOk (IntKind.u64.wrap (a1))), (room ((ByteArray.mk #[]) ++ nS ix ++ nS tm ++ nS (IntKind.u64.wrap kd) ++ cmdB ck cl sq ep (opB ok r c v has x) pr st key val gr mv wg wk wi wo ++ nS (IntKind.u64.wrap 2) ++ nS (IntKind.u64.wrap (a0))) 20), (inB (1) 2), (decide (IntKind.i64.wrap (IntKind.u64.wrap (a0)) = a0)), (uOk (IntKind.u64.wrap (a0))), (room ((ByteArray.mk #[]) ++ nS ix ++ nS tm ++ nS (IntKind.u64.wrap kd) ++ cmdB ck cl sq ep (opB ok r c v has x) pr st key val gr mv wg wk wi wo ++ nS (IntKind.u64.wrap 2)) 20), (inB (0) 2), (uOk (IntKind.u64.wrap 2)), (room ((ByteArray.mk #[]) ++ nS ix ++ nS tm ++ nS (IntKind.u64.wrap kd) ++ cmdB ck cl sq ep (opB ok r c v has x) pr st key val gr mv wg wk wi wo) 20), (decide (73 = 73 ∧ 75 = 75 ∧ 77 = 77)), (iOk ck), (iOk cl), (iOk ok), (iOk st), (iOk gr), (iOk wg), (iOk wi), (iOk wo), (uOk sq), (uOk ep), (uOk pr), (room ((ByteArray.mk #[]) ++ nS ix ++ nS tm ++ nS (IntKind.u64.wrap kd)) (r.size + c.size + v.size + x.size + key.size + val.size + wk.size + 600)), (uOk (IntKind.u64.wrap kd)), (room ((ByteArray.mk #[]) ++ nS ix ++ nS tm) 20), (uOk tm), (room ((ByteArray.mk #[]) ++ nS ix) 20), (uOk ix), true, ((entV (ix, tm, kd, (ck, cl, sq, ep, (ok, r, c, v, has, x, ()), pr, st, key, val, gr, (mv, wg, wk, wi, wo, ()), ()), [a0, a1], ()) != 0) == false)]) (by kernel_rfl) (allI ?_)) ?_
  · rw [h0]
    simp only [uOk_wrap, wB ikd, w0, w1, uix, utm, ikd, ick, icl, usq, uep, iok, upr, ist, igr, iwg, iwi, iwo, p1, p2, room, List.all_cons, List.all_nil, Bool.and_true, Bool.and_eq_true, decide_eq_true_eq, ByteArray.size_append]
    and_intros <;> (first | exact True.intro | rfl | omega)
  · show tupS _ _ = tupS _ _
    congr 1
    simp only [encB, cmdD, memB, List.length_cons, List.length_nil, List.foldr_cons, List.foldr_nil, emptyApp', appEmpty, ByteArray.append_assoc, wU]
    try rfl
theorem enc_w3 (ix tm kd ck cl sq ep ok pr st gr wg wi wo a0 a1 a2 : Int) (r c v x key val wk : ByteArray) (has mv : Bool) (h : EW (ix, tm, kd, (ck, cl, sq, ep, (ok, r, c, v, has, x, ()), pr, st, key, val, gr, (mv, wg, wk, wi, wo, ()), ()), [a0, a1, a2], ())) (h0 : entV (ix, tm, kd, (ck, cl, sq, ep, (ok, r, c, v, has, x, ()), pr, st, key, val, gr, (mv, wg, wk, wi, wo, ()), ()), [a0, a1, a2], ()) = 0) : PureCall Try.prog 20 [.agg (rEntry.cells (ix, tm, kd, (ck, cl, sq, ep, (ok, r, c, v, has, x, ()), pr, st, key, val, gr, (mv, wg, wk, wi, wo, ()), ()), [a0, a1, a2], ()))] (tupS (encB (ix, tm, kd, (ck, cl, sq, ep, (ok, r, c, v, has, x, ()), pr, st, key, val, gr, (mv, wg, wk, wi, wo, ()), ()), [a0, a1, a2], ())) 0) := by
  obtain ⟨uix, utm, ikd, ⟨ick, icl, usq, uep, iok, upr, ist, igr, iwg, iwi, iwo, sz⟩, hlen, il⟩ := h
  simp only at uix utm ikd ick icl usq uep iok upr ist igr iwg iwi iwo sz hlen
  have w0 := wB (il a0 (by simp))
  have m0 := nS_size (IntKind.u64.wrap a0)
  have w1 := wB (il a1 (by simp))
  have m1 := nS_size (IntKind.u64.wrap a1)
  have w2 := wB (il a2 (by simp))
  have m2 := nS_size (IntKind.u64.wrap a2)
  have hc := cmdD_size (ck, cl, sq, ep, (ok, r, c, v, has, x, ()), pr, st, key, val, gr, (mv, wg, wk, wi, wo, ()), ()) ⟨ick, icl, usq, uep, iok, upr, ist, igr, iwg, iwi, iwo, sz⟩
  have hc : (cmdB ck cl sq ep (opB ok r c v has x) pr st key val gr mv wg wk wi wo).size ≤ 100001000 := hc
  have f0 := nS_size ix; have f1 := nS_size tm; have f2 := nS_size (IntKind.u64.wrap kd); have f3 := nS_size (IntKind.u64.wrap 3); have z0 : (ByteArray.mk #[]).size = 0 := rfl
  have p1 : decide ((0 : Int) ≤ ix) = true := by simp only [uOk, Bool.and_eq_true] at uix; exact uix.1
  have p2 : decide ((0 : Int) ≤ tm) = true := by simp only [uOk, Bool.and_eq_true] at utm; exact utm.1
  refine PureCall.res (EEe.pure_ok (os := [false]) (r := (.tup [(false, [(.str ((ByteArray.mk #[]) ++ nS ix ++ nS tm ++ nS (IntKind.u64.wrap kd) ++ cmdB ck cl sq ep (opB ok r c v has x) pr st key val gr mv wg wk wi wo ++ nS (IntKind.u64.wrap 3) ++ nS (IntKind.u64.wrap (a0)) ++ nS (IntKind.u64.wrap (a1)) ++ nS (IntKind.u64.wrap (a2))))]), (false, [(.int .i64 (0))])])) (cs := [(decide (IntKind.i64.wrap (IntKind.u64.wrap (a2)) = a2)), (uOk (IntKind.u64.wrap (a2))), (room ((ByteArray.mk #[]) ++ nS ix ++ nS tm ++ nS (IntKind.u64.wrap kd) ++ cmdB ck cl sq ep (opB ok r c v has x) pr st key val gr mv wg wk wi wo ++ nS (IntKind.u64.wrap 3) ++ nS (IntKind.u64.wrap (a0)) ++ nS (IntKind.u64.wrap (a1))) 20), (inB (2) 3), (decide (IntKind.i64.wrap (IntKind.u64.wrap (a1)) = a1)), (uOk (IntKind.u64.wrap (a1))), (room ((ByteArray.mk #[]) ++ nS ix ++ nS tm ++ nS (IntKind.u64.wrap kd) ++ cmdB ck cl sq ep (opB ok r c v has x) pr st key val gr mv wg wk wi wo ++ nS (IntKind.u64.wrap 3) ++ nS (IntKind.u64.wrap (a0))) 20), (inB (1) 3), (decide (IntKind.i64.wrap (IntKind.u64.wrap (a0)) = a0)), (uOk (IntKind.u64.wrap (a0))), (room ((ByteArray.mk #[]) ++ nS ix ++ nS tm ++ nS (IntKind.u64.wrap kd) ++ cmdB ck cl sq ep (opB ok r c v has x) pr st key val gr mv wg wk wi wo ++ nS (IntKind.u64.wrap 3)) 20), (inB (0) 3), (uOk (IntKind.u64.wrap 3)), (room ((ByteArray.mk #[]) ++ nS ix ++ nS tm ++ nS (IntKind.u64.wrap kd) ++ cmdB ck cl sq ep (opB ok r c v has x) pr st key val gr mv wg wk wi wo) 20), (decide (73 = 73 ∧ 75 = 75 ∧ 77 = 77)), (iOk ck), (iOk cl), (iOk ok), (iOk st), (iOk gr), (iOk wg), (iOk wi), (iOk wo), (uOk sq), (uOk ep), (uOk pr), (room ((ByteArray.mk #[]) ++ nS ix ++ nS tm ++ nS (IntKind.u64.wrap kd)) (r.size + c.size + v.size + x.size + key.size + val.size + wk.size + 600)), (uOk (IntKind.u64.wrap kd)), (room ((ByteArray.mk #[]) ++ nS ix ++ nS tm) 20), (uOk tm), (room ((ByteArray.mk #[]) ++ nS ix) 20), (uOk ix), true, ((entV (ix, tm, kd, (ck, cl, sq, ep, (ok, r, c, v, has, x, ()), pr, st, key, val, gr, (mv, wg, wk, wi, wo, ()), ()), [a0, a1, a2], ()) != 0) == false)]) (by kernel_rfl) (allI ?_)) ?_
  · rw [h0]
    simp only [uOk_wrap, wB ikd, w0, w1, w2, uix, utm, ikd, ick, icl, usq, uep, iok, upr, ist, igr, iwg, iwi, iwo, p1, p2, room, List.all_cons, List.all_nil, Bool.and_true, Bool.and_eq_true, decide_eq_true_eq, ByteArray.size_append]
    and_intros <;> (first | exact True.intro | rfl | omega)
  · show tupS _ _ = tupS _ _
    congr 1
    simp only [encB, cmdD, memB, List.length_cons, List.length_nil, List.foldr_cons, List.foldr_nil, emptyApp', appEmpty, ByteArray.append_assoc, wU]
    try rfl
theorem enc_w4 (ix tm kd ck cl sq ep ok pr st gr wg wi wo a0 a1 a2 a3 : Int) (r c v x key val wk : ByteArray) (has mv : Bool) (h : EW (ix, tm, kd, (ck, cl, sq, ep, (ok, r, c, v, has, x, ()), pr, st, key, val, gr, (mv, wg, wk, wi, wo, ()), ()), [a0, a1, a2, a3], ())) (h0 : entV (ix, tm, kd, (ck, cl, sq, ep, (ok, r, c, v, has, x, ()), pr, st, key, val, gr, (mv, wg, wk, wi, wo, ()), ()), [a0, a1, a2, a3], ()) = 0) : PureCall Try.prog 20 [.agg (rEntry.cells (ix, tm, kd, (ck, cl, sq, ep, (ok, r, c, v, has, x, ()), pr, st, key, val, gr, (mv, wg, wk, wi, wo, ()), ()), [a0, a1, a2, a3], ()))] (tupS (encB (ix, tm, kd, (ck, cl, sq, ep, (ok, r, c, v, has, x, ()), pr, st, key, val, gr, (mv, wg, wk, wi, wo, ()), ()), [a0, a1, a2, a3], ())) 0) := by
  obtain ⟨uix, utm, ikd, ⟨ick, icl, usq, uep, iok, upr, ist, igr, iwg, iwi, iwo, sz⟩, hlen, il⟩ := h
  simp only at uix utm ikd ick icl usq uep iok upr ist igr iwg iwi iwo sz hlen
  have w0 := wB (il a0 (by simp))
  have m0 := nS_size (IntKind.u64.wrap a0)
  have w1 := wB (il a1 (by simp))
  have m1 := nS_size (IntKind.u64.wrap a1)
  have w2 := wB (il a2 (by simp))
  have m2 := nS_size (IntKind.u64.wrap a2)
  have w3 := wB (il a3 (by simp))
  have m3 := nS_size (IntKind.u64.wrap a3)
  have hc := cmdD_size (ck, cl, sq, ep, (ok, r, c, v, has, x, ()), pr, st, key, val, gr, (mv, wg, wk, wi, wo, ()), ()) ⟨ick, icl, usq, uep, iok, upr, ist, igr, iwg, iwi, iwo, sz⟩
  have hc : (cmdB ck cl sq ep (opB ok r c v has x) pr st key val gr mv wg wk wi wo).size ≤ 100001000 := hc
  have f0 := nS_size ix; have f1 := nS_size tm; have f2 := nS_size (IntKind.u64.wrap kd); have f3 := nS_size (IntKind.u64.wrap 4); have z0 : (ByteArray.mk #[]).size = 0 := rfl
  have p1 : decide ((0 : Int) ≤ ix) = true := by simp only [uOk, Bool.and_eq_true] at uix; exact uix.1
  have p2 : decide ((0 : Int) ≤ tm) = true := by simp only [uOk, Bool.and_eq_true] at utm; exact utm.1
  refine PureCall.res (EEe.pure_ok (os := [false]) (r := (.tup [(false, [(.str ((ByteArray.mk #[]) ++ nS ix ++ nS tm ++ nS (IntKind.u64.wrap kd) ++ cmdB ck cl sq ep (opB ok r c v has x) pr st key val gr mv wg wk wi wo ++ nS (IntKind.u64.wrap 4) ++ nS (IntKind.u64.wrap (a0)) ++ nS (IntKind.u64.wrap (a1)) ++ nS (IntKind.u64.wrap (a2)) ++ nS (IntKind.u64.wrap (a3))))]), (false, [(.int .i64 (0))])])) (cs := [(decide (IntKind.i64.wrap (IntKind.u64.wrap (a3)) = a3)), (uOk (IntKind.u64.wrap (a3))), (room ((ByteArray.mk #[]) ++ nS ix ++ nS tm ++ nS (IntKind.u64.wrap kd) ++ cmdB ck cl sq ep (opB ok r c v has x) pr st key val gr mv wg wk wi wo ++ nS (IntKind.u64.wrap 4) ++ nS (IntKind.u64.wrap (a0)) ++ nS (IntKind.u64.wrap (a1)) ++ nS (IntKind.u64.wrap (a2))) 20), (inB (3) 4), (decide (IntKind.i64.wrap (IntKind.u64.wrap (a2)) = a2)), (uOk (IntKind.u64.wrap (a2))), (room ((ByteArray.mk #[]) ++ nS ix ++ nS tm ++ nS (IntKind.u64.wrap kd) ++ cmdB ck cl sq ep (opB ok r c v has x) pr st key val gr mv wg wk wi wo ++ nS (IntKind.u64.wrap 4) ++ nS (IntKind.u64.wrap (a0)) ++ nS (IntKind.u64.wrap (a1))) 20), (inB (2) 4), (decide (IntKind.i64.wrap (IntKind.u64.wrap (a1)) = a1)), (uOk (IntKind.u64.wrap (a1))), (room ((ByteArray.mk #[]) ++ nS ix ++ nS tm ++ nS (IntKind.u64.wrap kd) ++ cmdB ck cl sq ep (opB ok r c v has x) pr st key val gr mv wg wk wi wo ++ nS (IntKind.u64.wrap 4) ++ nS (IntKind.u64.wrap (a0))) 20), (inB (1) 4), (decide (IntKind.i64.wrap (IntKind.u64.wrap (a0)) = a0)), (uOk (IntKind.u64.wrap (a0))), (room ((ByteArray.mk #[]) ++ nS ix ++ nS tm ++ nS (IntKind.u64.wrap kd) ++ cmdB ck cl sq ep (opB ok r c v has x) pr st key val gr mv wg wk wi wo ++ nS (IntKind.u64.wrap 4)) 20), (inB (0) 4), (uOk (IntKind.u64.wrap 4)), (room ((ByteArray.mk #[]) ++ nS ix ++ nS tm ++ nS (IntKind.u64.wrap kd) ++ cmdB ck cl sq ep (opB ok r c v has x) pr st key val gr mv wg wk wi wo) 20), (decide (73 = 73 ∧ 75 = 75 ∧ 77 = 77)), (iOk ck), (iOk cl), (iOk ok), (iOk st), (iOk gr), (iOk wg), (iOk wi), (iOk wo), (uOk sq), (uOk ep), (uOk pr), (room ((ByteArray.mk #[]) ++ nS ix ++ nS tm ++ nS (IntKind.u64.wrap kd)) (r.size + c.size + v.size + x.size + key.size + val.size + wk.size + 600)), (uOk (IntKind.u64.wrap kd)), (room ((ByteArray.mk #[]) ++ nS ix ++ nS tm) 20), (uOk tm), (room ((ByteArray.mk #[]) ++ nS ix) 20), (uOk ix), true, ((entV (ix, tm, kd, (ck, cl, sq, ep, (ok, r, c, v, has, x, ()), pr, st, key, val, gr, (mv, wg, wk, wi, wo, ()), ()), [a0, a1, a2, a3], ()) != 0) == false)]) (by kernel_rfl) (allI ?_)) ?_
  · rw [h0]
    simp only [uOk_wrap, wB ikd, w0, w1, w2, w3, uix, utm, ikd, ick, icl, usq, uep, iok, upr, ist, igr, iwg, iwi, iwo, p1, p2, room, List.all_cons, List.all_nil, Bool.and_true, Bool.and_eq_true, decide_eq_true_eq, ByteArray.size_append]
    and_intros <;> (first | exact True.intro | rfl | omega)
  · show tupS _ _ = tupS _ _
    congr 1
    simp only [encB, cmdD, memB, List.length_cons, List.length_nil, List.foldr_cons, List.foldr_nil, emptyApp', appEmpty, ByteArray.append_assoc, wU]
    try rfl
theorem enc_w5 (ix tm kd ck cl sq ep ok pr st gr wg wi wo a0 a1 a2 a3 a4 : Int) (r c v x key val wk : ByteArray) (has mv : Bool) (h : EW (ix, tm, kd, (ck, cl, sq, ep, (ok, r, c, v, has, x, ()), pr, st, key, val, gr, (mv, wg, wk, wi, wo, ()), ()), [a0, a1, a2, a3, a4], ())) (h0 : entV (ix, tm, kd, (ck, cl, sq, ep, (ok, r, c, v, has, x, ()), pr, st, key, val, gr, (mv, wg, wk, wi, wo, ()), ()), [a0, a1, a2, a3, a4], ()) = 0) : PureCall Try.prog 20 [.agg (rEntry.cells (ix, tm, kd, (ck, cl, sq, ep, (ok, r, c, v, has, x, ()), pr, st, key, val, gr, (mv, wg, wk, wi, wo, ()), ()), [a0, a1, a2, a3, a4], ()))] (tupS (encB (ix, tm, kd, (ck, cl, sq, ep, (ok, r, c, v, has, x, ()), pr, st, key, val, gr, (mv, wg, wk, wi, wo, ()), ()), [a0, a1, a2, a3, a4], ())) 0) := by
  obtain ⟨uix, utm, ikd, ⟨ick, icl, usq, uep, iok, upr, ist, igr, iwg, iwi, iwo, sz⟩, hlen, il⟩ := h
  simp only at uix utm ikd ick icl usq uep iok upr ist igr iwg iwi iwo sz hlen
  have w0 := wB (il a0 (by simp))
  have m0 := nS_size (IntKind.u64.wrap a0)
  have w1 := wB (il a1 (by simp))
  have m1 := nS_size (IntKind.u64.wrap a1)
  have w2 := wB (il a2 (by simp))
  have m2 := nS_size (IntKind.u64.wrap a2)
  have w3 := wB (il a3 (by simp))
  have m3 := nS_size (IntKind.u64.wrap a3)
  have w4 := wB (il a4 (by simp))
  have m4 := nS_size (IntKind.u64.wrap a4)
  have hc := cmdD_size (ck, cl, sq, ep, (ok, r, c, v, has, x, ()), pr, st, key, val, gr, (mv, wg, wk, wi, wo, ()), ()) ⟨ick, icl, usq, uep, iok, upr, ist, igr, iwg, iwi, iwo, sz⟩
  have hc : (cmdB ck cl sq ep (opB ok r c v has x) pr st key val gr mv wg wk wi wo).size ≤ 100001000 := hc
  have f0 := nS_size ix; have f1 := nS_size tm; have f2 := nS_size (IntKind.u64.wrap kd); have f3 := nS_size (IntKind.u64.wrap 5); have z0 : (ByteArray.mk #[]).size = 0 := rfl
  have p1 : decide ((0 : Int) ≤ ix) = true := by simp only [uOk, Bool.and_eq_true] at uix; exact uix.1
  have p2 : decide ((0 : Int) ≤ tm) = true := by simp only [uOk, Bool.and_eq_true] at utm; exact utm.1
  refine PureCall.res (EEe.pure_ok (os := [false]) (r := (.tup [(false, [(.str ((ByteArray.mk #[]) ++ nS ix ++ nS tm ++ nS (IntKind.u64.wrap kd) ++ cmdB ck cl sq ep (opB ok r c v has x) pr st key val gr mv wg wk wi wo ++ nS (IntKind.u64.wrap 5) ++ nS (IntKind.u64.wrap (a0)) ++ nS (IntKind.u64.wrap (a1)) ++ nS (IntKind.u64.wrap (a2)) ++ nS (IntKind.u64.wrap (a3)) ++ nS (IntKind.u64.wrap (a4))))]), (false, [(.int .i64 (0))])])) (cs := [(decide (IntKind.i64.wrap (IntKind.u64.wrap (a4)) = a4)), (uOk (IntKind.u64.wrap (a4))), (room ((ByteArray.mk #[]) ++ nS ix ++ nS tm ++ nS (IntKind.u64.wrap kd) ++ cmdB ck cl sq ep (opB ok r c v has x) pr st key val gr mv wg wk wi wo ++ nS (IntKind.u64.wrap 5) ++ nS (IntKind.u64.wrap (a0)) ++ nS (IntKind.u64.wrap (a1)) ++ nS (IntKind.u64.wrap (a2)) ++ nS (IntKind.u64.wrap (a3))) 20), (inB (4) 5), (decide (IntKind.i64.wrap (IntKind.u64.wrap (a3)) = a3)), (uOk (IntKind.u64.wrap (a3))), (room ((ByteArray.mk #[]) ++ nS ix ++ nS tm ++ nS (IntKind.u64.wrap kd) ++ cmdB ck cl sq ep (opB ok r c v has x) pr st key val gr mv wg wk wi wo ++ nS (IntKind.u64.wrap 5) ++ nS (IntKind.u64.wrap (a0)) ++ nS (IntKind.u64.wrap (a1)) ++ nS (IntKind.u64.wrap (a2))) 20), (inB (3) 5), (decide (IntKind.i64.wrap (IntKind.u64.wrap (a2)) = a2)), (uOk (IntKind.u64.wrap (a2))), (room ((ByteArray.mk #[]) ++ nS ix ++ nS tm ++ nS (IntKind.u64.wrap kd) ++ cmdB ck cl sq ep (opB ok r c v has x) pr st key val gr mv wg wk wi wo ++ nS (IntKind.u64.wrap 5) ++ nS (IntKind.u64.wrap (a0)) ++ nS (IntKind.u64.wrap (a1))) 20), (inB (2) 5), (decide (IntKind.i64.wrap (IntKind.u64.wrap (a1)) = a1)), (uOk (IntKind.u64.wrap (a1))), (room ((ByteArray.mk #[]) ++ nS ix ++ nS tm ++ nS (IntKind.u64.wrap kd) ++ cmdB ck cl sq ep (opB ok r c v has x) pr st key val gr mv wg wk wi wo ++ nS (IntKind.u64.wrap 5) ++ nS (IntKind.u64.wrap (a0))) 20), (inB (1) 5), (decide (IntKind.i64.wrap (IntKind.u64.wrap (a0)) = a0)), (uOk (IntKind.u64.wrap (a0))), (room ((ByteArray.mk #[]) ++ nS ix ++ nS tm ++ nS (IntKind.u64.wrap kd) ++ cmdB ck cl sq ep (opB ok r c v has x) pr st key val gr mv wg wk wi wo ++ nS (IntKind.u64.wrap 5)) 20), (inB (0) 5), (uOk (IntKind.u64.wrap 5)), (room ((ByteArray.mk #[]) ++ nS ix ++ nS tm ++ nS (IntKind.u64.wrap kd) ++ cmdB ck cl sq ep (opB ok r c v has x) pr st key val gr mv wg wk wi wo) 20), (decide (73 = 73 ∧ 75 = 75 ∧ 77 = 77)), (iOk ck), (iOk cl), (iOk ok), (iOk st), (iOk gr), (iOk wg), (iOk wi), (iOk wo), (uOk sq), (uOk ep), (uOk pr), (room ((ByteArray.mk #[]) ++ nS ix ++ nS tm ++ nS (IntKind.u64.wrap kd)) (r.size + c.size + v.size + x.size + key.size + val.size + wk.size + 600)), (uOk (IntKind.u64.wrap kd)), (room ((ByteArray.mk #[]) ++ nS ix ++ nS tm) 20), (uOk tm), (room ((ByteArray.mk #[]) ++ nS ix) 20), (uOk ix), true, ((entV (ix, tm, kd, (ck, cl, sq, ep, (ok, r, c, v, has, x, ()), pr, st, key, val, gr, (mv, wg, wk, wi, wo, ()), ()), [a0, a1, a2, a3, a4], ()) != 0) == false)]) (by kernel_rfl) (allI ?_)) ?_
  · rw [h0]
    simp only [uOk_wrap, wB ikd, w0, w1, w2, w3, w4, uix, utm, ikd, ick, icl, usq, uep, iok, upr, ist, igr, iwg, iwi, iwo, p1, p2, room, List.all_cons, List.all_nil, Bool.and_true, Bool.and_eq_true, decide_eq_true_eq, ByteArray.size_append]
    and_intros <;> (first | exact True.intro | rfl | omega)
  · show tupS _ _ = tupS _ _
    congr 1
    simp only [encB, cmdD, memB, List.length_cons, List.length_nil, List.foldr_cons, List.foldr_nil, emptyApp', appEmpty, ByteArray.append_assoc, wU]
    try rfl
theorem encodeW (a : rEntry.den) (h : EW a) (h0 : entV a = 0) : PureCall Try.prog 20 [.agg (rEntry.cells a)] (tupS (encB a) 0) := by
  obtain ⟨ix, tm, kd, ⟨ck, cl, sq, ep, ⟨ok, r, c, v, has, x, _⟩, pr, st, key, val, gr, ⟨mv, wg, wk, wi, wo, _⟩, _⟩, l, _⟩ := a
  have hl := h.len
  match l, hl, h, h0 with
  | [], _, h, h0 => exact enc_w0 ix tm kd ck cl sq ep ok pr st gr wg wi wo  r c v x key val wk has mv h h0
  | [a0], _, h, h0 => exact enc_w1 ix tm kd ck cl sq ep ok pr st gr wg wi wo a0 r c v x key val wk has mv h h0
  | [a0, a1], _, h, h0 => exact enc_w2 ix tm kd ck cl sq ep ok pr st gr wg wi wo a0 a1 r c v x key val wk has mv h h0
  | [a0, a1, a2], _, h, h0 => exact enc_w3 ix tm kd ck cl sq ep ok pr st gr wg wi wo a0 a1 a2 r c v x key val wk has mv h h0
  | [a0, a1, a2, a3], _, h, h0 => exact enc_w4 ix tm kd ck cl sq ep ok pr st gr wg wi wo a0 a1 a2 a3 r c v x key val wk has mv h h0
  | [a0, a1, a2, a3, a4], _, h, h0 => exact enc_w5 ix tm kd ck cl sq ep ok pr st gr wg wi wo a0 a1 a2 a3 a4 r c v x key val wk has mv h h0
  | _ :: _ :: _ :: _ :: _ :: _ :: _, hl, _, _ => simp at hl
theorem encodeN (a : rEntry.den) (h1 : uOk a.1 = true) (h2 : uOk a.2.1 = true) (h0 : entV a = 2) : PureCall Try.prog 20 [.agg (rEntry.cells a)] (tupS (ByteArray.mk #[]) 2) := by
  obtain ⟨ix, tm, kd, ⟨ck, cl, sq, ep, ⟨ok, r, c, v, has, x, _⟩, pr, st, key, val, gr, ⟨mv, wg, wk, wi, wo, _⟩, _⟩, l, _⟩ := a
  simp only [uOk, Bool.and_eq_true] at h1 h2
  refine EEe.pure_ok (os := [true]) (cs := [((entV (ix, tm, kd, (ck, cl, sq, ep, (ok, r, c, v, has, x, ()), pr, st, key, val, gr, (mv, wg, wk, wi, wo, ()), ()), l, ()) != 0) == true)]) (by kernel_rfl) (allI ?_)
  rw [show entV _ = 2 from h0]; rfl
end Go.Proofs.Ytjplobgambnhjaa
