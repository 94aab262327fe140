/- What the document's taker takes: an entry, one run; no statement. -/
import Derived.Test.YtjplobgambnhjaaGreatRqb
import Derived.Test.YtjplobgambnhjaaGreatDea
set_option linter.unusedVariables false
set_option linter.unusedSimpArgs false
set_option maxRecDepth 100000
namespace Go.Proofs.YtjplobgambnhjaaGreat
open Go Go.Eng

def qeG (s : ByteArray) : Bool := mqB (mqN (eS s)) (qdB (.n 5) (qdsB rEntL false s) (eS s)) (nr (eS s))
def qeT (s : ByteArray) : ByteArray := mbS (mqN (eS s)) (nr (eS s))
def qeD (s : ByteArray) : rEntry.den := entD (qdsV rEntL s) (mqL (mqN (eS s)) (nr (eS s)))
theorem qen_run (s : ByteArray) : ERq.run 19 [.one (.ptr 1 0)] (hQ s false) [] =
    some (.agg (rEntry.cells (qeD s)), hQ (qeT s) (qeG s) ++ [.cells (rEntry.cells (qeD s)), .cells (rEntry.cells (qeD s))], qdsC rEntL s) := by kernel_rfl
theorem qen_h (s : ByteArray) (hs : szk s = true) : HeapCall Tryz.prog 19 [.one (.ptr 1 0)] (hQ s false) (.agg (rEntry.cells (qeD s))) (hQ (qeT s) (qeG s)) :=
  ERq.heap_cut 2 (qen_run s) (allI (qdsC_all rEntL hs (by decide))) (Nat.le_refl 2) (by simp [idsV, idsC, qeD, entD, cmdD, opD, CT.cells]) (by kernel_rfl) (by simp [idsB, idsC])
noncomputable def ERe : Env Tryz.prog := ERq.addHF 19 selT
  (fun args hp os => match args, hp with
    | [.one (.ptr 1 0)], [.cells [.str s], .cells [.ptr 0 0, .bool b]] => retC (.agg (rEntry.cells (qeD s)), hQ (qeT s) (qeG s)) [b == false, szk s] os
    | _, _ => none)
  (fun args hp os r hp' cs os' h hc => by
    split at h
    · rename_i b
      simp only [retC, Option.some.injEq, Prod.mk.injEq] at h
      obtain ⟨⟨rfl, rfl⟩, rfl, rfl⟩ := h
      obtain ⟨h1, hc2⟩ := of_allTc hc
      have h3 := (of_allTc hc2).1
      have h1 : b = false := eq_of_beq h1
      subst h1
      exact qen_h _ h3
    · cases h)
open Go Go.Eng

theorem mbG_f : ∀ (k : Nat) (s : ByteArray), mbG k false s = false
  | 0, _ => rfl
  | k + 1, s => mbG_f k (nr s)
theorem mbG_true {k : Nat} {g : Bool} {s : ByteArray} (h : mbG k g s = true) : g = true := by
  cases g with
  | true => rfl
  | false => rw [mbG_f] at h; cases h
theorem mqB_eq : ∀ (k : Nat) (b : Bool) (s : ByteArray), mqB k b s = !mbG k (!b) s
  | 0, b, s => by cases b <;> rfl
  | k + 1, b, s => by
    rw [mqB, mqB_eq k, qdB_eq, Bool.not_not]; rfl
theorem mqL_eq : ∀ (k : Nat) {s : ByteArray}, mbG k true s = true → mqL k s = mbL k s
  | 0, _, _ => rfl
  | k + 1, s, h => by
    have h1 : cgB true s = true := mbG_true (k := k) h
    have h2 : mbG k (cgB true s) (nr s) = true := h
    rw [h1] at h2
    have h3 : nq s 1073741824 = numV s := nq_good h1
    rw [mqL, mbL, mqL_eq k h2, h3]
theorem lmB_rd (g : Bool) (s : ByteArray) : lmB g s = rdG (.n 5) g s := rfl
theorem lmB_true {g : Bool} {s : ByteArray} (h : lmB g s = true) : g = true ∧ mqN s = lmN s := by
  have hg : g = true := rdG_true (r := .n 5) h
  subst hg
  have h3 : nq s 5 = numV s := nq_good h
  have h5 : numV s ≤ 5 := by
    have := nq_le s (m := 5) (by decide)
    omega
  refine ⟨rfl, ?_⟩
  unfold mqN lmN
  rw [h3, if_pos h5]
/-- Members: are all well; how many; which. -/
theorem mems_b (b : Bool) (s : ByteArray) : mqB (mqN s) (qdB (.n 5) b s) (nr s) = !mbG (lmN s) (lmB (!b) s) (nr s) := by
  rw [mqB_eq, qdB_eq, Bool.not_not, ← lmB_rd]
  cases h : lmB (!b) s with
  | false => rw [mbG_f, mbG_f]
  | true => rw [(lmB_true h).2]
theorem mems_l {g : Bool} {s : ByteArray} (h : mbG (lmN s) (lmB g s) (nr s) = true) : g = true ∧ mbS (mqN s) (nr s) = mbS (lmN s) (nr s) ∧ mqL (mqN s) (nr s) = mbL (lmN s) (nr s) := by
  have h1 := mbG_true h
  obtain ⟨hg, hn⟩ := lmB_true h1
  rw [h1] at h
  rw [hn]
  exact ⟨hg, rfl, mqL_eq _ h⟩
theorem qeG_eq (s : ByteArray) : qeG s = !eG s := by
  unfold qeG eG
  rw [mems_b, qdsB_eq, Bool.not_not]; rfl
theorem qe_good {s : ByteArray} (h : eG s = true) : qeT s = eT s ∧ qeD s = eD s := by
  obtain ⟨h1, h2, h3⟩ := mems_l (g := rdsG rEntL true s) (s := eS s) h
  refine ⟨h2, ?_⟩
  unfold qeD eD
  rw [h3, qdsV_eq h1]
def qB1 (s : ByteArray) : Bool := bif !qeG s then (((qeT s).size : Nat) : Int) == 0 else false
def qB2 (s : ByteArray) : Bool := bif !qB1 s then true else entV (qeD s) != 0
def csQe (s : ByteArray) : List Bool :=
  [(fun q => !qB1 s || q) (id ((!qB1 s) == false)), (fun q => !((!qB1 s) == false) || q) (id ((!qB1 s) == false)), (fun q => !((!qB1 s) == false) || q) (decide ((0 : Int) ≤ (qeD s).1)), (fun q => !((!qB1 s) == false) || q) (decide ((0 : Int) ≤ (qeD s).2.1)), (fun q => !((!qB1 s) == false) || q) (id ((!qB1 s) == false)),
   (fun q => !!qeG s || q) (id ((!qeG s) == true)), id ((!qeG s) == true), (!qeG s) == true, (fun q => !((!qeG s) == true) || q) (id ((!qeG s) == true)), (fun q => !((!qeG s) == true) || q) (id ((!qeG s) == true)), (fun q => !((!qeG s) == true) || q) (id ((!qeG s) == true)), true, szk s]
theorem rde_runB (s : ByteArray) : ERe.pureRun 5 [vS s] [false, false, false] =
    some (.tup [(true, (CT.pair cU (.pair cU (.pair cI (.pair rCmd .unit)))).cells (0, 0, 0, eZ.2.2.2.1, ()) ++ [.nils]), (false, [.int .i64 4])], [true, true, true, true, true, (!qeG s) == false, (!qeG s) == false, (!qeG s) == false, (fun q => !((!qeG s) == true) || q) (id ((!qeG s) == true)), (fun q => !((!qeG s) == true) || q) (id ((!qeG s) == true)), (fun q => !((!qeG s) == true) || q) (id ((!qeG s) == true)), true, szk s]) := by kernel_rfl
theorem rde_runT (s : ByteArray) : ERe.pureRun 5 [vS s] [true, true] =
    some (.tup [(true, (CT.pair cU (.pair cU (.pair cI (.pair rCmd .unit)))).cells (0, 0, 0, eZ.2.2.2.1, ()) ++ [.nils]), (false, [.int .i64 4])], (qB2 s == true) :: csQe s) := by kernel_rfl
theorem rde_runF (s : ByteArray) : ERe.pureRun 5 [vS s] [true, false] =
    some (tupE (qeD s) 0, (qB2 s == false) :: csQe s) := by kernel_rfl
theorem eD_1 (s : ByteArray) : (eD s).1 = numV s := by kernel_rfl
theorem eD_2 (s : ByteArray) : (eD s).2.1 = numV (nr s) := by kernel_rfl
theorem ge_of1 {d : rEntry.den} {n : Int} (h : d.1 = n) (h0 : 0 ≤ n) : decide ((0 : Int) ≤ d.1) = true := decide_eq_true (by rw [h]; exact h0)
theorem ge_of2 {d : rEntry.den} {n : Int} (h : d.2.1 = n) (h0 : 0 ≤ n) : decide ((0 : Int) ≤ d.2.1) = true := decide_eq_true (by rw [h]; exact h0)
theorem csQe_all {s : ByteArray} {d : rEntry.den} (hs : szk s = true) (hq : qeG s = false) (e2 : qeD s = d) (n1 : decide ((0 : Int) ≤ d.1) = true) (n2 : decide ((0 : Int) ≤ d.2.1) = true) : (csQe s).all (fun c => c) = true := by
  unfold csQe
  rw [hq, e2]
  simp only [List.all_cons, List.all_nil, hs, n1, n2, id_eq]
  cases qB1 s <;> rfl
theorem rdent_any (s : ByteArray) (hs : szk s = true) : PureCall Tryz.prog 5 [vS s] (tupE (deA s).1 (deA s).2) := by
  unfold deA
  cases hg : eG s with
  | false =>
    have hq : qeG s = true := by rw [qeG_eq, hg]; rfl
    have h2 : eB2 s = true := by unfold eB2; rw [hg]; rfl
    have h3 : eB3 s = true := by unfold eB3; rw [h2]; rfl
    rw [h3]
    refine PureCall.resw (ERe.pure_ok (rde_runB s) (allI ?_)) fun X v _ hv => tup_w eZ_w hv
    rw [hq]; simp only [List.all_cons, List.all_nil, hs]; rfl
  | true =>
    have hq : qeG s = false := by rw [qeG_eq, hg]; rfl
    obtain ⟨e1, e2⟩ := qe_good hg
    have h1 : qB1 s = !decide ((((eT s).size : Nat) : Int) > 0) := by
      unfold qB1
      rw [hq, e1]
      rw [Bool.not_false, cond_true]
      rw [Bool.eq_iff_iff]
      simp only [beq_iff_eq, Bool.not_eq_true', decide_eq_false_iff_not]
      omega
    have h2 : eB2 s = !qB1 s := by
      unfold eB2
      rw [hg, h1, Bool.not_not, Bool.not_true, cond_false]
    have h3 : eB3 s = qB2 s := by
      unfold eB3 qB2
      rw [h2, e2]
    have n1 := ge_of1 (eD_1 s) (numV_ge s)
    have n2 := ge_of2 (eD_2 s) (numV_ge (nr s))
    have hc : (csQe s).all (fun c => c) = true := csQe_all hs hq e2 n1 n2
    rw [h3, ← e2]
    cases hb : qB2 s with
    | true =>
      refine PureCall.resw (ERe.pure_ok (rde_runT s) (allI ?_)) fun X v _ hv => tup_w eZ_w hv
      rw [List.all_cons, hc, hb]; rfl
    | false =>
      refine ERe.pure_ok (rde_runF s) (allI ?_)
      rw [List.all_cons, hc, hb]; rfl
open Go Go.Eng

abbrev tupR (d : rRes.den) (e : Int) : AV := .tup [(true, rRes.cells d), (false, [.int .i64 e])]
def rResL : List Rd := [wN, .y, cT, cT, tN]
def rsG (s : ByteArray) : Bool := rdsG rResL true s
def rsT (s : ByteArray) : ByteArray := rdsS rResL s
def resD (V : List RV) : rRes.den := (ww V 0, ff V 1, tt V 2, tt V 3, nn V 4, ())
def rsD (s : ByteArray) : rRes.den := resD (rdsV rResL s)
def okR (r : rRes.den) : Bool := resOk r.1 r.2.2.1 r.2.2.2.1 r.2.2.2.2.1
def rB2 (s : ByteArray) : Bool := bif !rsG s then true else decide ((((rsT s).size : Nat) : Int) > 0)
def rB3 (s : ByteArray) : Bool := bif rB2 s then true else !okR (rsD s)
def drA (s : ByteArray) : rRes.den × Int := bif rB3 s then (rRes.dflt, 4) else (rsD s, 0)
theorem dr_runT (s : ByteArray) : EDr.pureRun 6 [vS s] [true, true, true, true] =
    some (tupR rRes.dflt 4, [true, true, true, true, (!rsG s) == true, (!rsG s) == true, (!rsG s) == true] ++ rdsC rResL true s) := by kernel_rfl
theorem dr_runF (s : ByteArray) : EDr.pureRun 6 [vS s] [false, false, false] =
    some (tupR (rsD s) 0, [rB3 s == false, (fun q => rB2 s || q) (rB2 s == false), (fun q => !(rB2 s == false) || q) (rB2 s == false), (fun q => !(rB2 s == false) || q) (rB2 s == false), (fun q => !rsG s || q) ((!rsG s) == false), true, (!rsG s) == false, (!rsG s) == false] ++ rdsC rResL true s) := by kernel_rfl
theorem dr_runB (s : ByteArray) : EDr.pureRun 6 [vS s] [false, false, true] =
    some (tupR rRes.dflt 4, [rB3 s == true, (fun q => rB2 s || q) (rB2 s == false), (fun q => !(rB2 s == false) || q) (rB2 s == false), (fun q => !(rB2 s == false) || q) (rB2 s == false), (fun q => !rsG s || q) ((!rsG s) == false), true, (!rsG s) == false, (!rsG s) == false] ++ rdsC rResL true s) := by kernel_rfl
theorem dr_any (s : ByteArray) (hs : szk s = true) : PureCall Tryz.prog 6 [vS s] (tupR (drA s).1 (drA s).2) := by
  have hc := rdsC_all rResL true hs (by decide)
  unfold drA
  cases hg : rsG s with
  | false =>
    have h2 : rB2 s = true := by unfold rB2; rw [hg]; rfl
    have h3 : rB3 s = true := by unfold rB3; rw [h2]; rfl
    rw [h3]
    refine EDr.pure_ok (dr_runT s) (allI ?_)
    rw [List.all_append, hc, hg]; rfl
  | true =>
    cases h3 : rB3 s with
    | true =>
      refine EDr.pure_ok (dr_runB s) (allI ?_)
      rw [List.all_append, hc, hg, h3]
      cases rB2 s <;> rfl
    | false =>
      refine EDr.pure_ok (dr_runF s) (allI ?_)
      rw [List.all_append, hc, hg, h3]
      cases rB2 s <;> rfl
/-- Is all taken, and was it well? -/
def dnB (G : Bool) (T : ByteArray) : Bool := bif !G then ((T.size : Nat) : Int) == 0 else false
def csD1 (G : Bool) (T : ByteArray) : List Bool := [(fun q => !dnB G T || q) (id ((!dnB G T) == false)), (fun q => !((!dnB G T) == false) || q) (id ((!dnB G T) == false)), (fun q => !((!dnB G T) == false) || q) (id ((!dnB G T) == false))]
def csD3 (G : Bool) : List Bool := [(fun q => !((!G) == true) || q) (id ((!G) == true)), (fun q => !((!G) == true) || q) (id ((!G) == true)), (fun q => !((!G) == true) || q) (id ((!G) == true))]
def csD2 (G : Bool) : List Bool := [(fun q => !!G || q) (id ((!G) == true)), id ((!G) == true), (!G) == true] ++ csD3 G
theorem csD1_all (G : Bool) (T : ByteArray) : (csD1 G T).all (fun c => c) = true := by
  unfold csD1
  simp only [List.all_cons, List.all_nil, id_eq]
  cases dnB G T <;> rfl
theorem csD3_all (G : Bool) : (csD3 G).all (fun c => c) = true := by cases G <;> rfl
theorem csD2_all : (csD2 false).all (fun c => c) = true := rfl
theorem dnB_eq {T : ByteArray} : (!dnB false T) = decide ((((T.size : Nat) : Int)) > 0) := by
  unfold dnB
  rw [Bool.not_false, cond_true, Bool.eq_iff_iff]
  simp only [Bool.not_eq_true', beq_eq_false_iff_ne, decide_eq_true_eq, ne_eq]
  omega
def qrG (s : ByteArray) : Bool := qdsB rResL false s
def qrD (s : ByteArray) : rRes.den := resD (qdsV rResL s)
def rQ2 (s : ByteArray) : Bool := bif !dnB (qrG s) (rsT s) then true else !okR (qrD s)
theorem rdr_runB (s : ByteArray) : ERq.pureRun 7 [vS s] [false, false, false] =
    some (tupR rRes.dflt 4, [true, true, true, (!qrG s) == false, (!qrG s) == false, (!qrG s) == false] ++ (csD3 (qrG s) ++ qdsC rResL s)) := by kernel_rfl
theorem rdr_run (s : ByteArray) (b : Bool) : ERq.pureRun 7 [vS s] [true, b] =
    some (bif b then tupR rRes.dflt 4 else tupR (qrD s) 0, (rQ2 s == b) :: (csD1 (qrG s) (rsT s) ++ (csD2 (qrG s) ++ qdsC rResL s))) := by cases b <;> kernel_rfl
theorem rdr_any (s : ByteArray) (hs : szk s = true) : PureCall Tryz.prog 7 [vS s] (tupR (drA s).1 (drA s).2) := by
  have hc := qdsC_all rResL hs (by decide)
  have hG : qrG s = !rsG s := qdsB_eq rResL false s
  unfold drA
  cases hg : rsG s with
  | false =>
    have hq : qrG s = true := by rw [hG, hg]; rfl
    have h2 : rB2 s = true := by unfold rB2; rw [hg]; rfl
    have h3 : rB3 s = true := by unfold rB3; rw [h2]; rfl
    rw [h3]
    refine ERq.pure_ok (rdr_runB s) (allI ?_)
    rw [List.all_append, List.all_append, hc, csD3_all, hq]; rfl
  | true =>
    have hq : qrG s = false := by rw [hG, hg]; rfl
    have e2 : qrD s = rsD s := congrArg resD (qdsV_eq hg)
    have h3 : rB3 s = rQ2 s := by
      unfold rB3 rQ2 rB2
      rw [hg, hq, dnB_eq, Bool.not_true, cond_false, e2]
    have hr := ERq.pure_ok (rdr_run s (rQ2 s)) (allI (by
      rw [List.all_cons, List.all_append, List.all_append, hc, csD1_all, hq, csD2_all, beq_self_eq_true]; rfl))
    rw [h3, ← e2]
    cases hb : rQ2 s with
    | true => rw [hb] at hr; exact hr
    | false => rw [hb] at hr; exact hr
end Go.Proofs.YtjplobgambnhjaaGreat
