/- Numbers, texts and bytes behind bytes: contracts in one form; no statement. -/
import Derived.Test.YtjplobgambnhjaaGreatRes
set_option linter.unusedVariables false
set_option linter.unusedSimpArgs false
namespace Go.Proofs.YtjplobgambnhjaaGreat
open Go Go.Eng

theorem emptyApp (x : ByteArray) : ({ data := #[] } : ByteArray) ++ x = x := by
  apply ByteArray.ext
  simp [ByteArray.data_append]
theorem uOk_wrap (n : Int) : uOk (IntKind.u64.wrap n) = true := by
  have h : IntKind.u64.wrap n = n % 18446744073709551616 := by
    simp only [IntKind.wrap, IntKind.signed, IntKind.bits, Bool.false_and]
    simp
  rw [h, uOk, decide_eq_true (by omega), decide_eq_true (by omega)]; rfl
/-- A number's bytes, a text's, a flag's. -/
def nS (v : Int) : ByteArray := strOfNums (numB v.toNat)
def wU (v : Int) : Int := IntKind.u64.wrap v
def tS (b : ByteArray) : ByteArray := nS (wU ((b.size : Nat) : Int)) ++ b
def yS (v : Int) : ByteArray := strOfNums [v]
theorem nS_size (v : Int) : (nS v).size ≤ 11 := by unfold nS; rw [strOfNums_size]; exact numB_len _
/-- There is room for so much more. -/
def room (b : ByteArray) (n : Nat) : Bool := decide (b.size + n ≤ 1000000000000)
theorem room_le {b : ByteArray} {n : Nat} (h : room b n = true) : b.size + n ≤ 1000000000000 := of_decide_eq_true h
theorem w_putnum (b : ByteArray) (v : Int) (h : uOk v = true) (hb : room b 20 = true) : PureCall Tryz.prog 107 [vS b, vU v] (vS (b ++ nS v)) :=
  putnum_pure b v h (by have := room_le hb; omega)
theorem w_puttext (b s : ByteArray) (hb : room b (s.size + 20) = true) : PureCall Tryz.prog 109 [vS b, vS s] (vS (b ++ tS s)) := by
  have hb := room_le hb
  have n1 := nS_size (wU ((s.size : Nat) : Int))
  have u1 := uOk_wrap ((s.size : Nat) : Int)
  refine PureCall.res (ERes.pure_ok (os := []) (r := (.one (.str (b.append (strOfNums (numB (IntKind.u64.wrap ((s.size : Nat) : Int)).toNat)) ++ s)))) (cs := [(decide ((b.append (strOfNums (numB (IntKind.u64.wrap ((s.size : Nat) : Int)).toNat))).size + s.size ≤ 9223372036854775807)), (uOk (IntKind.u64.wrap ((s.size : Nat) : Int))), (decide (b.size + 20 ≤ 140737488355328))]) (by kernel_rfl) (allI ?_)) ?_
  · unfold nS wU at n1
    simp only [u1, List.all_cons, List.all_nil, Bool.and_true, Bool.and_eq_true, decide_eq_true_eq]
    have e : (b.append (strOfNums (numB (IntKind.u64.wrap ((s.size : Nat) : Int)).toNat))).size = b.size + (strOfNums (numB (IntKind.u64.wrap ((s.size : Nat) : Int)).toNat)).size := ByteArray.size_append
    rw [e]
    and_intros <;> (first | exact True.intro | omega)
  · show vS (b ++ _ ++ s) = vS (b ++ (_ ++ s))
    rw [ByteArray.append_assoc]; rfl
theorem w_putbyte (b : ByteArray) (v : Int) (hb : room b 20 = true) : PureCall Tryz.prog 111 [vS b, vY v] (vS (b ++ yS v)) := by
  have hb := room_le hb
  refine PureCall.res (ERes.pure_ok (os := []) (r := (.one (.str (strOfNums (bytesOf b ++ [v]))))) (cs := [true, ((((bytesOf b).length + [v].length) * 1).ble 140737488355328 && ((bytesOf b).length + [v].length).ble maxLen), (b.size.ble maxLen)]) (by kernel_rfl) (allI ?_)) ?_
  · simp only [List.all_cons, List.all_nil, Bool.and_true, Bool.and_eq_true, Nat.ble_eq, bytesOf_len, List.length_cons, List.length_nil, maxLen]
    and_intros <;> (first | exact True.intro | omega)
  · rw [strApp, strBytes]; rfl

noncomputable def EWn : Env Tryz.prog := ((ERes.addT1 107 [.one .str, .one cU] (fun d => vS (d.1 ++ nS d.2.1)) (fun d => [uOk d.2.1, room d.1 20]) fun d hc => w_putnum d.1 d.2.1 (of_allTc hc).1 (of_allTc (of_allTc hc).2).1).addT1
  109 [.one .str, .one .str] (fun d => vS (d.1 ++ tS d.2.1)) (fun d => [room d.1 (ByteArray.size d.2.1 + 20)]) fun d hc => w_puttext d.1 d.2.1 (of_allTc hc).1).addT1
  111 [.one .str, .one cB] (fun d => vS (d.1 ++ yS d.2.1)) (fun d => [room d.1 20]) fun d hc => w_putbyte d.1 d.2.1 (of_allTc hc).1
end Go.Proofs.YtjplobgambnhjaaGreat
