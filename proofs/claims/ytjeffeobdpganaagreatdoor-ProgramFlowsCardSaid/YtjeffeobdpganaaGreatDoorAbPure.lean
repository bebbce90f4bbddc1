/- Operations that compute with numbers, texts, pointers. -/
import Derived.Test.YtjeffeobdpganaaGreatDoorAbApp
import Derived.Laws.Strings
set_option linter.unusedSimpArgs false
set_option linter.unusedVariables false
namespace Go.Ab
open Go.RowKit (Below)
section
variable {P : Program} {B : Nat} {w : World} {g : Gh} {h : Hp}

theorem int_good {op : BinOp} {k k' : IntKind} {a b : Int} (t : TypeId) (hk : k = k' ∨ op = .shl ∨ op = .shr) {v : AV} (hv : intOp op k a b = some v) :
    ∃ val, (binOp op t (.int k a) (.int k' b)).run P w = .ok val w ∧ R B w g v val := by
  cases op <;> simp only [intOp] at hv
  case shl =>
    split at hv
    · cases hv
    · rename_i hn
      injection hv with hv
      subst hv
      exact ⟨_, by simp [binOp, Op.shift, hn], .int _ _⟩
  case shr =>
    split at hv
    · cases hv
    · rename_i hn
      injection hv with hv
      subst hv
      exact ⟨_, by simp [binOp, Op.shift, hn], .int _ _⟩
  case quo =>
    have hk' : k = k' := by simpa using hk
    subst hk'
    split at hv
    · cases hv
    · rename_i hn
      injection hv with hv
      subst hv
      exact ⟨_, by simp [binOp, Op.intDiv, hn], .int _ _⟩
  case rem =>
    have hk' : k = k' := by simpa using hk
    subst hk'
    split at hv
    · cases hv
    · rename_i hn
      injection hv with hv
      subst hv
      exact ⟨_, by simp [binOp, Op.intDiv, hn], .int _ _⟩
  all_goals
    have hk' : k = k' := by simpa using hk
    subst hk'
    injection hv with hv
    subst hv
  case add => exact ⟨_, by simp [binOp, Op.intArith], .int _ _⟩
  case sub => exact ⟨_, by simp [binOp, Op.intArith], .int _ _⟩
  case mul => exact ⟨_, by simp [binOp, Op.intArith], .int _ _⟩
  case and => exact ⟨_, by simp only [binOp, Op.intBits, ne_eq, not_true_eq_false, if_false, Sem.run_pure], .int _ _⟩
  case or => exact ⟨_, by simp only [binOp, Op.intBits, ne_eq, not_true_eq_false, if_false, Sem.run_pure], .int _ _⟩
  case xor => exact ⟨_, by simp only [binOp, Op.intBits, ne_eq, not_true_eq_false, if_false, Sem.run_pure], .int _ _⟩
  case andNot => exact ⟨_, by simp only [binOp, Op.intBits, ne_eq, not_true_eq_false, if_false, Sem.run_pure], .int _ _⟩
  case eql => exact ⟨_, by simp only [binOp, Op.intCmp, ne_eq, not_true_eq_false, if_false, Sem.run_pure], .bool _⟩
  case neq => exact ⟨_, by simp only [binOp, Op.intCmp, ne_eq, not_true_eq_false, if_false, Sem.run_pure], .bool _⟩
  case lss => exact ⟨_, by simp only [binOp, Op.intCmp, ne_eq, not_true_eq_false, if_false, Sem.run_pure], .bool _⟩
  case leq => exact ⟨_, by simp only [binOp, Op.intCmp, ne_eq, not_true_eq_false, if_false, Sem.run_pure], .bool _⟩
  case gtr => exact ⟨_, by simp only [binOp, Op.intCmp, ne_eq, not_true_eq_false, if_false, Sem.run_pure], .bool _⟩
  case geq => exact ⟨_, by simp only [binOp, Op.intCmp, ne_eq, not_true_eq_false, if_false, Sem.run_pure], .bool _⟩

theorem bytes_toList (s : List UInt8) : (ByteArray.mk s.toArray).toList = s := by
  rw [ByteArray.toList_eq]
theorem str_good {op : BinOp} {a b : List UInt8} (t : TypeId) {v : AV} (hv : strOp op a b = some v) :
    ∃ val, (binOp op t (.string ⟨a.toArray⟩) (.string ⟨b.toArray⟩)).run P w = .ok val w ∧ R B w g v val := by
  cases op <;> simp only [strOp] at hv
  case add =>
    split at hv
    · rename_i hle
      injection hv with hv
      subst hv
      refine ⟨.string ⟨(a ++ b).toArray⟩, ?_, .str _⟩
      have h1 : ¬ (((ByteArray.mk a.toArray).size + (ByteArray.mk b.toArray).size : Nat) : Int) > IntKind.i64.max := by
        have : IntKind.i64.max = 9223372036854775807 := by decide
        rw [this]
        simp [ByteArray.size]
        omega
      simp only [binOp, Op.stringOp, h1, if_false, Sem.run_pure]
      congr 2
    · cases hv
  case eql =>
    injection hv with hv
    subst hv
    exact ⟨_, by simp only [binOp, Op.stringOp, Sem.run_pure, bytes_toList], .bool _⟩
  case neq =>
    injection hv with hv
    subst hv
    exact ⟨_, by simp only [binOp, Op.stringOp, Sem.run_pure, bytes_toList], .bool _⟩
  all_goals cases hv
end
end Go.Ab
