/- The document's DecodeMsg: the loop over the entries; no statement. -/
import Derived.Test.YtjplobgambnhjaaGreatRnb
import Derived.Test.YtjplobgambnhjaaGreatEngZ20
set_option linter.unusedVariables false
set_option linter.unusedSimpArgs false
set_option maxRecDepth 100000
namespace Go.Proofs.YtjplobgambnhjaaGreat
open Go Go.Eng

theorem frS_snoc : ∀ (j : Nat) (t : ByteArray), frS (j + 1) t = fr (frS j t)
  | 0, _ => rfl
  | j + 1, t => frS_snoc j (fr t)
theorem frQ_snoc : ∀ (j : Nat) (b : Bool) (t : ByteArray), frQ (j + 1) b t = qdB (.t 1048576) (frQ j b t) (frS j t)
  | 0, _, _ => rfl
  | j + 1, b, t => frQ_snoc j _ (fr t)
/-- The entries, as they come. -/
def frW (t : ByteArray) : Nat → List rEntry.den
  | 0 => []
  | j + 1 => frW t j ++ [(deA (fv (frS j t))).1]
theorem frL_snoc : ∀ (j : Nat) (t : ByteArray), frL (j + 1) t = frL j t ++ [(deA (fv (frS j t))).1]
  | 0, _ => rfl
  | j + 1, t => by
    show (deA (fv t)).1 :: frL (j + 1) (fr t) = ((deA (fv t)).1 :: frL j (fr t)) ++ _
    rw [frL_snoc j (fr t)]; rfl
theorem frW_eq (t : ByteArray) : ∀ j, frW t j = frL j t
  | 0 => rfl
  | j + 1 => by rw [frW, frW_eq t j, frL_snoc]
theorem frW_len (t : ByteArray) (j : Nat) : (frW t j).length = j := by rw [frW_eq, frL_len]
/-- Is this entry none? The first that is none. -/
def eBad (t : ByteArray) : Bool := (deA (fv t)).2 != 0
def fbE : Nat → ByteArray → Nat
  | 0, _ => 0
  | k + 1, t => bif eBad t then 0 else fbE k (fr t) + 1
theorem frB_true : ∀ (n : Nat) (t : ByteArray), frB n true t = true
  | 0, _ => rfl
  | n + 1, t => by rw [frB, cond_true, frB_true n]
theorem frB_step (n : Nat) (t : ByteArray) : frB (n + 1) false t = frB n (eBad t) (fr t) := by rw [frB, cond_false]; rfl
theorem frB_false : ∀ (n : Nat) (t : ByteArray), frB n false t = false → ∀ i, i < n → eBad (frS i t) = false
  | 0, _, _, i, h => absurd h (Nat.not_lt_zero i)
  | n + 1, t, h, i, hi => by
    rw [frB_step] at h
    cases he : eBad t with
    | true => rw [he, frB_true] at h; cases h
    | false =>
      rw [he] at h
      cases i with
      | zero => exact he
      | succ i => exact frB_false n (fr t) h i (by omega)
theorem fbE_spec : ∀ (n : Nat) (t : ByteArray), frB n false t = true → fbE n t < n ∧ eBad (frS (fbE n t) t) = true ∧ ∀ i, i < fbE n t → eBad (frS i t) = false
  | 0, _, h => by cases h
  | n + 1, t, h => by
    rw [frB_step] at h
    cases he : eBad t with
    | true =>
      have hf : fbE (n + 1) t = 0 := by rw [fbE, he]; rfl
      rw [hf]
      exact ⟨by omega, he, fun i hi => absurd hi (Nat.not_lt_zero i)⟩
    | false =>
      rw [he] at h
      obtain ⟨h1, h2, h3⟩ := fbE_spec n (fr t) h
      have hf : fbE (n + 1) t = fbE n (fr t) + 1 := by rw [fbE, he]; rfl
      rw [hf]
      refine ⟨by omega, h2, fun i hi => ?_⟩
      cases i with
      | zero => exact he
      | succ i => exact h3 i (by omega)
theorem fbE_uniq {n j : Nat} {t : ByteArray} (h : frB n false t = true) (hj : j < n) (hb : eBad (frS j t) = true) (hall : ∀ i, i < j → eBad (frS i t) = false) : fbE n t = j := by
  obtain ⟨h1, h2, h3⟩ := fbE_spec n t h
  rcases Nat.lt_trichotomy (fbE n t) j with h | h | h
  · rw [hall _ h] at h2; cases h2
  · exact h
  · rw [h3 j h] at hb; cases hb
noncomputable def lDm : Code := (theLoop Tryz.prog 9 12).getD .skip
theorem lDm_eq : theLoop Tryz.prog 9 12 = some lDm := by kernel_rfl
abbrev pre7 (a0 a1 a2 a3 a4 a5 : Int) (a6 : Bool) (cs : List AC) : List AC := .int .i64 a0 :: .int .i64 a1 :: .int .u64 a2 :: .int .u64 a3 :: .int .u64 a4 :: .int .u64 a5 :: .bool a6 :: cs
abbrev hDm (z : List AC) (s : ByteArray) (b : Bool) (c : List AC) (v : Nat) : List AB := [.cells z, .cells [.str s], .cells [.ptr 1 0, .bool b], .cells c, .tok 31 v]
abbrev zM : List AC := rMsg.cells dZ
def noIds (rest : List AC) : Bool := rest.all fun c => (idsC c).isEmpty
theorem noIds_at {rest : List AC} (h : noIds rest = true) {c : AC} (hc : c ∈ rest) {i : Nat} : i ∈ idsC c → False := fun hi => by
  have := List.all_eq_true.1 h c hc
  rw [List.isEmpty_iff.1 this] at hi; cases hi
def csDl (t : ByteArray) (n : Int) (j : Nat) (f : Bool) : List Bool := [eBad (frS j t) == f, szk (fv (frS j t)), true, szk (frS j t), decide (((j : Nat) : Int) < n) == true]
theorem csDl_all {t : ByteArray} {n : Int} {j : Nat} {f : Bool} (hs : szk t = true) (hj : ((j : Nat) : Int) < n) (hf : eBad (frS j t) = f) : (csDl t n j f).all (fun c => c) = true := by
  have h1 := szk_frS j hs
  have h2 : szk (fv (frS j t)) = true := szk_tv h1
  unfold csDl
  rw [hf, h1, h2, decide_eq_true hj, beq_self_eq_true]; rfl
theorem zM_ids : idsB (.cells zM) = [] := by kernel_rfl
theorem cZm_ids : idsB (.cells cZm) = [] := by kernel_rfl
theorem dm_ids {z : List AC} (hz : idsB (.cells z) = []) {rest : List AC} (hr : noIds rest = true) (s : ByteArray) (b : Bool) (a0 a1 a2 a3 a4 a5 : Int) (a6 : Bool) (l : List rEntry.den) (u v : Nat) :
    ∀ x ∈ hDm z s b (pre7 a0 a1 a2 a3 a4 a5 a6 (.sl rEntry l (.own 4 u) :: rest)) v, ∀ i ∈ idsB x, i < 5 := by
  intro x hx i hi
  simp only [List.mem_cons, List.not_mem_nil, or_false] at hx
  rcases hx with rfl | rfl | rfl | rfl | rfl
  · rw [hz] at hi; cases hi
  · simp [idsB, idsC] at hi
  · simp [idsB, idsC] at hi; subst hi; decide
  · simp [idsB, idsC] at hi
    rcases hi with rfl | ⟨c, hc, hi⟩
    · decide
    · exact (noIds_at hr hc hi).elim
  · simp [idsB] at hi
theorem dm_loop (n : Nat) (hn : n ≤ 8) (t : ByteArray) (hs : szk t = true) (b : Bool) (a0 a1 a2 a3 a4 a5 : Int) (a6 : Bool) (rest : List AC) (hr : noIds rest = true) :
    (frB n false t = false → LoopOk Tryz.prog lDm 121 [7, 3] [6, 4, 5, 2] [vU 0, vI 0] [vU n, .one (.ptr 2 0), .one (.ptr 3 0), .one (.ptr 0 0)] (hDm zM t b (pre7 a0 a1 a2 a3 a4 a5 a6 (.sl rEntry [] (.own 4 0) :: rest)) 0) (.exit 0) [vX, vI 0]
      (hDm zM (frS n t) (frQ n b t) (pre7 a0 a1 a2 a3 a4 a5 a6 (.sl rEntry (frW t n) (.own 4 n) :: rest)) n)) ∧
    (frB n false t = true → LoopOk Tryz.prog lDm 121 [7, 3] [6, 4, 5, 2] [vU 0, vI 0] [vU n, .one (.ptr 2 0), .one (.ptr 3 0), .one (.ptr 0 0)] (hDm zM t b (pre7 a0 a1 a2 a3 a4 a5 a6 (.sl rEntry [] (.own 4 0) :: rest)) 0) .ret [vX, vI 4]
      (hDm cZm (fr (frS (fbE n t) t)) (qdB (.t 1048576) (frQ (fbE n t) b t) (frS (fbE n t) t)) (pre7 a0 a1 a2 a3 a4 a5 a6 (.sl rEntry (frW t (fbE n t)) (.own 4 (fbE n t)) :: rest)) (fbE n t))) := by
  refine ⟨fun hf => ?_, fun hf => ?_⟩
  all_goals
    refine LoopOk.rounds (S := Nat) ERn lDm_eq (by kernel_rfl) (fun j => [vU j, vI 0]) (fun j => hDm zM (frS j t) (frQ j b t) (pre7 a0 a1 a2 a3 a4 a5 a6 (.sl rEntry (frW t j) (.own 4 j) :: rest)) j) (fun j => j ≤ n ∧ ∀ i, i < j → eBad (frS i t) = false) (fun j => n - j) 0 ⟨Nat.zero_le _, fun i hi => absurd hi (Nat.not_lt_zero i)⟩ ?_ (fun _ _ => rfl)
    intro j ⟨hj, hall⟩
    by_cases hlt : j < n
    · cases he : eBad (frS j t) with
      | false =>
        have hl := frW_len t j
        have hb : (Nat.ble (((frW t j).length + 1) * 264) 140737488355328 && Nat.ble ((frW t j).length + 1) maxLen) = true := by
          rw [hl, Bool.and_eq_true, Nat.ble_eq, Nat.ble_eq]; unfold maxLen; omega
        refine OneRound.goT [true, false, false] (vs := [vU (IntKind.u64.wrap (j + 1)), vI 0]) (hp' := hDm zM (fr (frS j t)) (qdB (.t 1048576) (frQ j b t) (frS j t)) (pre7 a0 a1 a2 a3 a4 a5 a6 (.sl rEntry (frW t j ++ [(deA (fv (frS j t))).1]) (.own 4 (j + 1)) :: rest)) (j + 1)) (cs := Nat.beq j j :: (Nat.ble (((frW t j).length + 1) * 264) 140737488355328 && Nat.ble ((frW t j).length + 1) maxLen) :: true :: csDl t n j false) (fun rest' => by kernel_rfl)
          (allI (by rw [List.all_cons, List.all_cons, List.all_cons, csDl_all hs (by omega) he, hb, Nat.beq_refl]; rfl)) (j + 1) ⟨by omega, fun i hi => ?_⟩ (by omega) ⟨.of_eq (by rw [wrapU64 (by omega) (by omega)]; rfl), .refl, trivial⟩ (by simp only [frS_snoc, frQ_snoc, frW])
          ⟨by simp [idsV, idsC], dm_ids zM_ids hr _ _ _ _ _ _ _ _ _ _ _ _⟩
        by_cases e : i = j
        · rw [e]; exact he
        · exact hall i (by omega)
      | true =>
        first
          | exact absurd ((frB_false n t hf j hlt).symm.trans he) (by decide)
          | (have hq := fbE_uniq hf hlt he hall
             rw [hq]
             exact OneRound.stopT [true, true] (vs := [vU j, vI 4]) (hp' := hDm cZm (fr (frS j t)) (qdB (.t 1048576) (frQ j b t) (frS j t)) (pre7 a0 a1 a2 a3 a4 a5 a6 (.sl rEntry (frW t j) (.own 4 j) :: rest)) j) (cs := csDl t n j true) (fun rest' => by kernel_rfl)
               (allI (csDl_all hs (by omega) he)) (by simp) ⟨.unk, .refl, trivial⟩ rfl ⟨by simp [idsV, idsC], dm_ids cZm_ids hr _ _ _ _ _ _ _ _ _ _ _ _⟩)
    · have hjn : j = n := by omega
      subst hjn
      first
        | exact absurd ((hall _ (fbE_spec j t hf).1).symm.trans (fbE_spec j t hf).2.1) (by decide)
        | exact OneRound.stopT [false] (vs := [vU j, vI 0]) (hp' := hDm zM (frS j t) (frQ j b t) (pre7 a0 a1 a2 a3 a4 a5 a6 (.sl rEntry (frW t j) (.own 4 j) :: rest)) j) (cs := [decide (((j : Nat) : Int) < ((j : Nat) : Int)) == false]) (fun rest' => by kernel_rfl)
            (allI (by rw [decide_eq_false (Int.lt_irrefl _)]; rfl)) (by simp) ⟨.unk, .refl, trivial⟩ rfl ⟨by simp [idsV, idsC], dm_ids zM_ids hr _ _ _ _ _ _ _ _ _ _ _ _⟩
open Go Go.Eng

theorem dm_pre {z : List AC} {d : rMsg.den} (hu : CT.un rMsg z = some (d, [])) (hz : eqZ rMsg d = true) (t : ByteArray) (b : Bool) (a0 a1 a2 a3 a4 a5 : Int) (a6 : Bool) (rest : List AC) :
    BWhs (hDm z t b (pre7 a0 a1 a2 a3 a4 a5 a6 (.nils :: rest)) 0) (hDm zM t b (pre7 a0 a1 a2 a3 a4 a5 a6 (.sl rEntry [] (.own 4 0) :: rest)) 0) := by
  have e := eqZ_eq _ _ hz
  subst e
  refine ⟨rfl, fun i x y h1 h2 => ?_⟩
  match i, h1, h2 with
  | 0, h1, h2 =>
    injection h1 with h1; injection h2 with h2
    exact .inr ⟨z, zM, h1.symm, h2.symm, fun X vs _ h => CW.un hu X vs h⟩
  | 1, h1, h2 => injection h1 with h1; injection h2 with h2; exact .inl (h1.symm.trans h2)
  | 2, h1, h2 => injection h1 with h1; injection h2 with h2; exact .inl (h1.symm.trans h2)
  | 3, h1, h2 =>
    injection h1 with h1; injection h2 with h2
    exact .inr ⟨_, _, h1.symm, h2.symm, CWh.app [.int .i64 a0, .int .i64 a1, .int .u64 a2, .int .u64 a3, .int .u64 a4, .int .u64 a5, .bool a6] (CWh.cons (fun X y hH h => nils_own_h rEntry (n := 4) (ty := 31) rfl hH h) (CWh.refl _ _))⟩
  | 4, h1, h2 => injection h1 with h1; injection h2 with h2; exact .inl (h1.symm.trans h2)
  | i + 5, h1, h2 => simp at h1
def dmC (k e N : Int) (t : ByteArray) (d : rMsg.den) (rest : List AC) : List Bool := [decide (k = 0), decide (e = 0), decide (0 ≤ N ∧ N ≤ 8), szk t, eqZ rMsg d, noIds rest]
def dmF (vals rov : List AV) (hp : List AB) (os : List Bool) : Option ((XE × List AV × List AB) × List Bool × List Bool) := match vals, rov, hp with
  | [.one (.int .u64 k), .one (.int .i64 e)], [.one (.int .u64 N), .one (.ptr 2 0), .one (.ptr 3 0), .one (.ptr 0 0)], [.cells z, .cells [.str t], .cells [.ptr 1 0, .bool b], .cells (.int .i64 a0 :: .int .i64 a1 :: .int .u64 a2 :: .int .u64 a3 :: .int .u64 a4 :: .int .u64 a5 :: .bool a6 :: .nils :: rest)] =>
    match CT.un rMsg z with
    | some (d, []) => brL (frB N.toNat false t) os
      (fun os => retC (.ret, [vX, vI 4], hDm cZm (fr (frS (fbE N.toNat t) t)) (qdB (.t 1048576) (frQ (fbE N.toNat t) b t) (frS (fbE N.toNat t) t)) (pre7 a0 a1 a2 a3 a4 a5 a6 (.sl rEntry (frW t (fbE N.toNat t)) (.own 4 (fbE N.toNat t)) :: rest)) (fbE N.toNat t)) (dmC k e N t d rest) os)
      (fun os => retC (.exit 0, [vX, vI 0], hDm zM (frS N.toNat t) (frQ N.toNat b t) (pre7 a0 a1 a2 a3 a4 a5 a6 (.sl rEntry (frW t N.toNat) (.own 4 N.toNat) :: rest)) N.toNat) (dmC k e N t d rest) os)
    | _ => none
  | _, _, _ => none
theorem dmF_ok (vals rov : List AV) (hp : List AB) (os : List Bool) (e : XE) (outs : List AV) (hp' : List AB) (cs os' : List Bool) (h : dmF vals rov hp os = some ((e, outs, hp'), cs, os')) (hc : ∀ c ∈ cs, c = true) : LoopOk Tryz.prog lDm 121 [7, 3] [6, 4, 5, 2] vals rov hp e outs hp' := by
  unfold dmF at h
  split at h
  · split at h
    · rename_i hu
      rcases brL_some h hc with ⟨hb, o, c, h, hc⟩ | ⟨hb, o, c, h, hc⟩
      all_goals
        simp only [retC, Option.some.injEq, Prod.mk.injEq] at h
        obtain ⟨⟨rfl, rfl, rfl⟩, rfl, rfl⟩ := h
        obtain ⟨h1, hc⟩ := of_allTc hc
        obtain ⟨h2, hc⟩ := of_allTc hc
        obtain ⟨h3, hc⟩ := of_allTc hc
        obtain ⟨h4, hc⟩ := of_allTc hc
        obtain ⟨h5, hc⟩ := of_allTc hc
        obtain ⟨h6, _⟩ := of_allTc hc
        simp only [decide_eq_true_eq] at h1 h2 h3
        subst h1; subst h2
        obtain ⟨n, hn⟩ := Int.eq_ofNat_of_zero_le h3.1
        subst hn
        refine LoopOk.coin 31 (.refl _) (LoopOk.preH (dm_pre hu h5 _ _ _ _ _ _ _ _ _ _) ?_)
        simp only [Int.toNat_natCast] at hb ⊢
        first
          | exact (dm_loop n (by omega) _ h4 _ _ _ _ _ _ _ _ _ h6).2 hb
          | exact (dm_loop n (by omega) _ h4 _ _ _ _ _ _ _ _ _ h6).1 hb
    · cases h
  · cases h
noncomputable def ERl : Env Tryz.prog := ERn.addL 9 12 lDm_eq 121 [7, 3] [6, 4, 5, 2] (by kernel_rfl) dmF dmF_ok
open Go Go.Eng

def n8 (s : ByteArray) : Nat := (nq (sp1 s) 8).toNat
/-- The message, as the document reads it. -/
def qN (s : ByteArray) : rMsg.den := msgD (qdsV rdL1 s) (frW (nr (sp1 s)) (n8 s)) (qdsV rdL2 (qt2 (n8 s) s)) (mqL (mqN (qt3 (n8 s) s)) (nr (qt3 (n8 s) s))) (qdsV rdL3 (qt4 (n8 s) s))
def qE (s : ByteArray) : Bool := bif !qW (n8 s) s then true else msgV (qN s) != 0
def csN (s : ByteArray) (f : Bool) : List Bool := [true, true, decide (0 ≤ nq (sp1 s) 8 ∧ nq (sp1 s) 8 ≤ 8), szk (nr (sp1 s)), true, true, frB (n8 s) false (nr (sp1 s)) == f]
theorem rdm_runT (s : ByteArray) : ERl.pureRun 9 [vS s] [true] = some (tZm, csN s true) := by kernel_rfl
theorem rdm_runB (s : ByteArray) : ERl.pureRun 9 [vS s] [false, false, false, false] =
    some (tZm, List.replicate 7 true ++ ((!qb5 (n8 s) s) == false) :: ((!qb5 (n8 s) s) == false) :: ((!qb5 (n8 s) s) == false) :: (csD3 (qb5 (n8 s) s) ++ (qdsC rdL3 (qt4 (n8 s) s) ++ csN s false))) := by kernel_rfl
theorem rdm_run (s : ByteArray) (f : Bool) : ERl.pureRun 9 [vS s] [false, true, f] =
    some (bif f then tZm else tupM (qN s) 0, (qE s == f) :: (csDM (qW (n8 s) s) (qN s) ++ (csD2 (qb5 (n8 s) s) ++ (qdsC rdL3 (qt4 (n8 s) s) ++ csN s false)))) := by cases f <;> kernel_rfl
open Go Go.Eng

theorem frG_f : ∀ (k : Nat) (s : ByteArray), frG k false s = false
  | 0, _ => rfl
  | k + 1, s => by rw [frG, cond_false, frG_f k]
theorem frG_true {k : Nat} {g : Bool} {s : ByteArray} (h : frG k g s = true) : g = true := by
  cases g with
  | true => rfl
  | false => rw [frG_f] at h; cases h
theorem rdsG_f (l : List Rd) (s : ByteArray) : rdsG l false s = false := by
  cases h : rdsG l false s with
  | false => rfl
  | true => exact absurd (rdsG_true h) (by decide)
theorem frQ_eq : ∀ (k : Nat) (b : Bool) (s : ByteArray), frQ k b s = !frG k (!b) s
  | 0, b, s => by cases b <;> rfl
  | k + 1, b, s => by
    rw [frQ, frQ_eq k, qdB_eq, Bool.not_not]; rfl
theorem lgB_good {u : ByteArray} {g : Bool} (h : lgB g u = true) : g = true ∧ nq u 8 = numV u ∧ numV u ≤ 8 := by
  have hg : g = true := rdG_true (r := .n 8) (s := u) h
  subst hg
  have h3 : nq u 8 = numV u := nq_good h
  refine ⟨rfl, h3, ?_⟩
  have := nq_le u (m := 8) (by decide)
  omega
theorem n8_eq {s : ByteArray} {g : Bool} (h : lgB g (sp1 s) = true) : g = true ∧ n8 s = lsK (sp1 s) := by
  obtain ⟨h1, h3, h5⟩ := lgB_good h
  refine ⟨h1, ?_⟩
  unfold n8 lsK
  rw [h3, if_pos h5]
theorem qb1_eq (s : ByteArray) : qb1 s = !lgB (gp1 true s) (sp1 s) := by
  unfold qb1
  rw [qdB_eq, qdsB_eq, Bool.not_not]; rfl
theorem qb2_eq (k : Nat) (s : ByteArray) : qb2 k s = !frG k (lgB (gp1 true s) (sp1 s)) (nr (sp1 s)) := by
  unfold qb2
  rw [frQ_eq, qb1_eq, Bool.not_not]
/-- With the number of entries as the program has it. -/
theorem qb4_eq (s : ByteArray) : qb4 (lsK (sp1 s)) s = !gp4 true s := by
  unfold qb4
  rw [mems_b, qdsB_eq, qb2_eq, Bool.not_not, Bool.not_not]; rfl
theorem qt4_eq {s : ByteArray} (h : gp4 true s = true) : gp3 true s = true ∧ qt4 (lsK (sp1 s)) s = sp4 s ∧ mqL (mqN (qt3 (lsK (sp1 s)) s)) (nr (qt3 (lsK (sp1 s)) s)) = mbL (lmN (sp3 s)) (nr (sp3 s)) := by
  obtain ⟨h1, h2, h3⟩ := mems_l (g := gp3 true s) (s := sp3 s) h
  exact ⟨h1, h2, h3⟩
theorem qb5_eq (s : ByteArray) : qb5 (lsK (sp1 s)) s = !gp5 true s := by
  unfold qb5
  rw [qdsB_eq, qb4_eq, Bool.not_not]
  cases h : gp4 true s with
  | true =>
    rw [(qt4_eq h).2.1]
    unfold gp5
    rw [h]
  | false =>
    unfold gp5
    rw [h, rdsG_f, rdsG_f]
theorem qb5_f (k : Nat) {s : ByteArray} (h : lgB (gp1 true s) (sp1 s) = false) : qb5 k s = true := by
  unfold qb5 qb4
  rw [qdsB_eq, mems_b, qdsB_eq, qb2_eq, h, frG_f]
  simp only [Bool.not_false, Bool.not_true, Bool.not_not, rdsG_f]
  have : lmB false (qt3 k s) = false := rfl
  rw [this, mbG_f, rdsG_f]; rfl
theorem gp5_f {s : ByteArray} (h : lgB (gp1 true s) (sp1 s) = false) : gp5 true s = false := by
  unfold gp5 gp4 gp3 gp2
  rw [h, frG_f, rdsG_f]
  have : lmB false (sp3 s) = false := rfl
  rw [this, mbG_f, rdsG_f]
theorem qb5_all (s : ByteArray) : qb5 (n8 s) s = !gp5 true s := by
  cases h : lgB (gp1 true s) (sp1 s) with
  | true => rw [(n8_eq h).2, qb5_eq]
  | false => rw [qb5_f _ h, gp5_f h]; rfl
theorem gp_all {s : ByteArray} (h : gp5 true s = true) : gp4 true s = true ∧ gp2 true s = true ∧ lgB (gp1 true s) (sp1 s) = true ∧ gp1 true s = true := by
  have h4 : gp4 true s = true := rdsG_true (l := rdL3) (s := sp4 s) h
  have h3 := (qt4_eq h4).1
  have h2 : gp2 true s = true := rdsG_true (l := rdL2) (s := sp2 s) h3
  have h1 : lgB (gp1 true s) (sp1 s) = true := frG_true (k := lsK (sp1 s)) (s := nr (sp1 s)) h2
  exact ⟨h4, h2, h1, (n8_eq h1).1⟩
theorem q_good {s : ByteArray} (h : gp5 true s = true) : qt5 (n8 s) s = sp5 s ∧ qN s = dM s ∧ frB (n8 s) false (nr (sp1 s)) = bdM s := by
  obtain ⟨h4, h2, hl, h1⟩ := gp_all h
  obtain ⟨h3, e4, eL⟩ := qt4_eq h4
  have e1 : qdsV rdL1 s = rdsV rdL1 s := qdsV_eq h1
  have e2 : qdsV rdL2 (sp2 s) = rdsV rdL2 (sp2 s) := qdsV_eq (by have h : rdsG rdL2 (gp2 true s) (sp2 s) = true := h3; rw [h2] at h; exact h)
  have e3 : qdsV rdL3 (sp4 s) = rdsV rdL3 (sp4 s) := qdsV_eq (by have h : rdsG rdL3 (gp4 true s) (sp4 s) = true := h; rw [h4] at h; exact h)
  refine ⟨?_, ?_, ?_⟩
  · unfold qt5
    rw [(n8_eq hl).2, e4]; rfl
  · unfold qN dM
    rw [(n8_eq hl).2, frW_eq, e4, eL, e1, e3]
    have : qt2 (lsK (sp1 s)) s = sp2 s := rfl
    rw [this, e2]
  · rw [(n8_eq hl).2]; rfl
open Go Go.Eng

theorem wrap_r (n : Int) : hR (IntKind.i64.wrap n) = true := by
  refine decide_eq_true ?_
  simp only [IntKind.wrap, IntKind.signed, IntKind.bits, Bool.true_and]
  split <;> simp_all <;> omega
theorem sgV_r (n : Int) : hR (sgV n) = true := by
  unfold sgV
  cases sgO n
  · exact wrap_r _
  · exact wrap_r _
theorem hintP (s : ByteArray) : (aP (dM s)).2.2.2.1 = sgV (numV (rdsS (rdL3.take 18) (sp4 s))) := by kernel_rfl
theorem hintT (s : ByteArray) : (aT (dM s)).2.2.2.2.1 = sgV (numV (rdsS (rdL3.take 46) (sp4 s))) := by kernel_rfl
theorem deA_nn (x : ByteArray) : (decide ((0 : Int) ≤ (deA x).1.1) && decide ((0 : Int) ≤ (deA x).1.2.1)) = true := by
  unfold deA
  cases eB3 x with
  | true => rfl
  | false =>
    rw [cond_false, ge_of1 (eD_1 x) (numV_ge x), ge_of2 (eD_2 x) (numV_ge (nr x))]; rfl
theorem frW_nn (t : ByteArray) : ∀ n, nnE (frW t n) = true
  | 0 => rfl
  | n + 1 => by
    have := frW_nn t n
    unfold nnE at this ⊢
    rw [frW, List.all_append, this, List.all_cons, deA_nn]; rfl
theorem eE_qN (s : ByteArray) : eE (qN s) = frW (nr (sp1 s)) (n8 s) := by kernel_rfl
theorem csN_all {s : ByteArray} (hs : szk s = true) {f : Bool} (hf : frB (n8 s) false (nr (sp1 s)) = f) : (csN s f).all (fun c => c) = true := by
  have h1 := nq_ge (sp1 s) 8
  have h2 := nq_le (sp1 s) (m := 8) (by decide)
  unfold csN
  rw [hf, szk_nr (szk_sp1 hs), decide_eq_true ⟨h1, h2⟩, beq_self_eq_true]; rfl
theorem szk_q4 (k : Nat) {s : ByteArray} (h : szk s = true) : szk (qt4 k s) = true := szk_mbS _ (szk_nr (szk_rdsS _ (szk_frS _ (szk_nr (szk_sp1 h)))))
theorem n8_le (s : ByteArray) : n8 s ≤ 8 := by
  have h2 := nq_le (sp1 s) (m := 8) (by decide)
  unfold n8; omega
theorem csDM_all {W : Bool} {d : rMsg.den} (h1 : (eE d).length ≤ maxLen) (h2 : nnE (eE d) = true) (h3 : hR (aP d).2.2.2.1 = true) (h4 : hR (aT d).2.2.2.2.1 = true) : (csDM W d).all (fun c => c) = true := by
  unfold csDM
  rw [decide_eq_true h1, h2, h3, h4]
  simp only [List.all_cons, List.all_nil, id_eq]
  cases W <;> rfl
theorem rdm_any (s : ByteArray) (hs : szk s = true) : PureCall Tryz.prog 9 [vS s] (tupM (dmA s).1 (dmA s).2) := by
  have hq := qdsC_all rdL3 (szk_q4 (n8 s) hs) (by decide)
  have hZ : ∀ X v, HRel X → VR X tZm v → VR X (tupM dZ 4) v := fun X v _ hv => tup_w cZm_w hv
  have hbad : gp5 true s = false → mx4 s = true := fun h => by
    unfold mx4 mx3 mx2
    rw [h]
    cases mx1 s <;> rfl
  unfold dmA
  cases hf : frB (n8 s) false (nr (sp1 s)) with
  | true =>
    have h4 : mx4 s = true := by
      cases h5 : gp5 true s with
      | false => exact hbad h5
      | true =>
        have hb := (q_good h5).2.2
        rw [hf] at hb
        unfold mx4 mx3 mx2 mx1
        rw [← hb]; rfl
    rw [h4]
    exact PureCall.resw (ERl.pure_ok (rdm_runT s) (allI (csN_all hs hf))) hZ
  | false =>
    cases h5 : gp5 true s with
    | false =>
      rw [hbad h5]
      have hb : qb5 (n8 s) s = true := by rw [qb5_all, h5]; rfl
      refine PureCall.resw (ERl.pure_ok (rdm_runB s) (allI ?_)) hZ
      rw [List.all_append, List.all_cons, List.all_cons, List.all_cons, List.all_append, List.all_append, hq, csN_all hs hf, csD3_all, hb]; rfl
    | true =>
      obtain ⟨e5, eN, eb⟩ := q_good h5
      have hb : qb5 (n8 s) s = false := by rw [qb5_all, h5]; rfl
      have h1 : mx1 s = false := by
        unfold mx1
        rw [← eb, hf]; rfl
      have h2 : mx2 s = false := by unfold mx2; rw [h1, h5]; rfl
      have h3 : mx3 s = !qW (n8 s) s := by
        unfold mx3 qW
        rw [h2, hb, e5, dnB_eq, cond_false]
      have h4 : mx4 s = qE s := by
        unfold mx4 qE
        rw [h3, eN]
      have hc : (csDM (qW (n8 s) s) (qN s)).all (fun c => c) = true := by
        refine csDM_all ?_ ?_ ?_ ?_
        · rw [eE_qN, frW_len]
          have := n8_le s
          unfold maxLen; omega
        · rw [eE_qN, frW_nn]
        · rw [eN, hintP]; exact sgV_r _
        · rw [eN, hintT]; exact sgV_r _
      have hr := ERl.pure_ok (rdm_run s (qE s)) (allI (by
        rw [List.all_cons, List.all_append, List.all_append, List.all_append, hc, hb, csD2_all, hq, csN_all hs hf, beq_self_eq_true]; rfl))
      rw [h4, ← eN]
      cases hE : qE s with
      | true => rw [hE] at hr; exact PureCall.resw hr hZ
      | false => rw [hE] at hr; exact hr
end Go.Proofs.YtjplobgambnhjaaGreat
