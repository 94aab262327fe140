/- Numbers, texts and bytes behind bytes: contracts in one form; no statement. -/
import Derived.Test.YtjplobgambnhjaaRes
set_option linter.unusedVariables false
set_option linter.unusedSimpArgs false
namespace Go.Proofs.Ytjplobgambnhjaa
open Go Go.Eng

theorem emptyApp (x : ByteArray) : ({ data := #[] } : ByteArray) ++ x = x := by
  apply ByteArray.ext
  simp [ByteArray.data_append]
theorem uOk_wrap (n : Int) : uOk (IntKind.u64.wrap n) = true := by
  have h : IntKind.u64.wrap n = n % 18446744073709551616 := by
    simp only [IntKind.wrap, IntKind.signed, IntKind.bits, Bool.false_and]
    simp
  rw [h, uOk, decide_eq_true (by omega), decide_eq_true (by omega)]; rfl
/-- A number's bytes, a text's, a flag's. -/
def nS (v : Int) : ByteArray := strOfNums (numB v.toNat)
def wU (v : Int) : Int := IntKind.u64.wrap v
def tS (b : ByteArray) : ByteArray := nS (wU ((b.size : Nat) : Int)) ++ b
def yS (v : Int) : ByteArray := strOfNums [v]
def fS (f : Bool) : ByteArray := strOfNums [bif f then 1 else 0]
theorem nS_size (v : Int) : (nS v).size ≤ 11 := by unfold nS; rw [strOfNums_size]; exact numB_len _
theorem fS_size (f : Bool) : (fS f).size = 1 := by unfold fS; rw [strOfNums_size]; rfl
theorem tS_size (b : ByteArray) : (tS b).size ≤ b.size + 11 := by
  have := nS_size (wU ((b.size : Nat) : Int))
  unfold tS
  rw [ByteArray.size_append]; omega
/-- There is room for so much more. -/
def room (b : ByteArray) (n : Nat) : Bool := decide (b.size + n ≤ 1000000000000)
theorem room_le {b : ByteArray} {n : Nat} (h : room b n = true) : b.size + n ≤ 1000000000000 := of_decide_eq_true h
theorem room_of {b : ByteArray} {n : Nat} (h : b.size + n ≤ 1000000000000) : room b n = true := decide_eq_true h

theorem w_putnum (b : ByteArray) (v : Int) (h : uOk v = true) (hb : room b 20 = true) : PureCall Try.prog 74 [vS b, vU v] (vS (b ++ nS v)) :=
  putnum_pure b v h (by have := room_le hb; omega)
theorem w_puttext (b s : ByteArray) (hb : room b (s.size + 20) = true) : PureCall Try.prog 76 [vS b, vS s] (vS (b ++ tS s)) := by
  have hb := room_le hb
  have n1 := nS_size (wU ((s.size : Nat) : Int))
  have u1 := uOk_wrap ((s.size : Nat) : Int)
  refine PureCall.res (ERes.pure_ok (os := []) (r := (.one (.str (b.append (strOfNums (numB (IntKind.u64.wrap ((s.size : Nat) : Int)).toNat)) ++ s)))) (cs := [(decide ((b.append (strOfNums (numB (IntKind.u64.wrap ((s.size : Nat) : Int)).toNat))).size + s.size ≤ 9223372036854775807)), (uOk (IntKind.u64.wrap ((s.size : Nat) : Int))), (decide (b.size + 20 ≤ 140737488355328))]) (by kernel_rfl) (allI ?_)) ?_
  · unfold nS wU at n1
    simp only [u1, List.all_cons, List.all_nil, Bool.and_true, Bool.and_eq_true, decide_eq_true_eq]
    have e : (b.append (strOfNums (numB (IntKind.u64.wrap ((s.size : Nat) : Int)).toNat))).size = b.size + (strOfNums (numB (IntKind.u64.wrap ((s.size : Nat) : Int)).toNat)).size := ByteArray.size_append
    rw [e]
    and_intros <;> (first | exact True.intro | omega)
  · show vS (b ++ _ ++ s) = vS (b ++ (_ ++ s))
    rw [ByteArray.append_assoc]; rfl
theorem w_putbyte (b : ByteArray) (v : Int) (hb : room b 20 = true) : PureCall Try.prog 78 [vS b, vY v] (vS (b ++ yS v)) := by
  have hb := room_le hb
  refine PureCall.res (ERes.pure_ok (os := []) (r := (.one (.str (strOfNums (bytesOf b ++ [v]))))) (cs := [true, ((((bytesOf b).length + [v].length) * 1).ble 140737488355328 && ((bytesOf b).length + [v].length).ble maxLen), (b.size.ble maxLen)]) (by kernel_rfl) (allI ?_)) ?_
  · simp only [List.all_cons, List.all_nil, Bool.and_true, Bool.and_eq_true, Nat.ble_eq, bytesOf_len, List.length_cons, List.length_nil, maxLen]
    and_intros <;> (first | exact True.intro | omega)
  · rw [strApp, strBytes]; rfl
theorem r_putnum (b : ByteArray) (v : Int) (h : uOk v = true) (hb : room b 20 = true) : PureCall Try.prog 100 [vS b, vU v] (vS (b ++ nS v)) := by
  have hb := room_le hb
  have n1 := nS_size v
  unfold nS at n1
  refine ERes.pure_ok (os := []) (cs := [(decide (b.size + (strOfNums (numB v.toNat)).size ≤ 9223372036854775807)), (uOk v)]) (by kernel_rfl) (allI ?_)
  simp only [h, List.all_cons, List.all_nil, Bool.and_true, Bool.and_eq_true, decide_eq_true_eq]
  omega
theorem r_puttext (b s : ByteArray) (hb : room b (s.size + 20) = true) : PureCall Try.prog 102 [vS b, vS s] (vS (b ++ tS s)) := by
  have hb := room_le hb
  have n1 := nS_size (wU ((s.size : Nat) : Int))
  have u1 := uOk_wrap ((s.size : Nat) : Int)
  unfold nS wU at n1
  refine ERes.pure_ok (os := []) (cs := [(decide (b.size + (strOfNums (numB (IntKind.u64.wrap ((s.size : Nat) : Int)).toNat) ++ s).size ≤ 9223372036854775807)), (decide ((strOfNums (numB (IntKind.u64.wrap ((s.size : Nat) : Int)).toNat)).size + s.size ≤ 9223372036854775807)), (uOk (IntKind.u64.wrap ((s.size : Nat) : Int)))]) (by kernel_rfl) (allI ?_)
  simp only [u1, List.all_cons, List.all_nil, Bool.and_true, Bool.and_eq_true, decide_eq_true_eq, ByteArray.size_append]
  and_intros <;> (first | exact True.intro | omega)
noncomputable def EWn : Env Try.prog := ((((ERes.addT1 74 [.one .str, .one cU] (fun d => vS (d.1 ++ nS d.2.1)) (fun d => [uOk d.2.1, room d.1 20]) fun d hc => w_putnum d.1 d.2.1 (of_allTc hc).1 (of_allTc (of_allTc hc).2).1).addT1
  76 [.one .str, .one .str] (fun d => vS (d.1 ++ tS d.2.1)) (fun d => [room d.1 (ByteArray.size d.2.1 + 20)]) fun d hc => w_puttext d.1 d.2.1 (of_allTc hc).1).addT1
  78 [.one .str, .one cB] (fun d => vS (d.1 ++ yS d.2.1)) (fun d => [room d.1 20]) fun d hc => w_putbyte d.1 d.2.1 (of_allTc hc).1).addT1
  100 [.one .str, .one cU] (fun d => vS (d.1 ++ nS d.2.1)) (fun d => [uOk d.2.1, room d.1 20]) fun d hc => r_putnum d.1 d.2.1 (of_allTc hc).1 (of_allTc (of_allTc hc).2).1).addT1
  102 [.one .str, .one .str] (fun d => vS (d.1 ++ tS d.2.1)) (fun d => [room d.1 (ByteArray.size d.2.1 + 20)]) fun d hc => r_puttext d.1 d.2.1 (of_allTc hc).1
end Go.Proofs.Ytjplobgambnhjaa
