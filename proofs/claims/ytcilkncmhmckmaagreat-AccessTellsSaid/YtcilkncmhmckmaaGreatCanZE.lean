/-
  Canonical runs by a table of short codes.
-/
import Derived.Test.YtcilkncmhmckmaaGreatCanZP
namespace Go.Can
open Go
set_option linter.all false

abbrev Tab := List (FuncId × SCode × List (Nat × Option (Option Nat)))

def Tab.find : Tab → FuncId → Option (SCode × List (Nat × Option (Option Nat)))
  | [], _ => none
  | e :: l, f => Bool.casesOn (motive := fun _ => Option (SCode × List (Nat × Option (Option Nat)))) (Nat.beq e.1 f) (Tab.find l f) (some e.2)

def TabOk (P : Program) (T : Tab) : Prop := ∀ e ∈ T, ∃ L, shortP P e.1 L = some e.2

theorem Tab.find_ok {P : Program} : ∀ {T : Tab}, TabOk P T → ∀ {f : FuncId} {x : SCode × List (Nat × Option (Option Nat))}, Tab.find T f = some x → ∃ L, shortP P f L = some x
  | [], _, f, x, h => by cases h
  | e :: T, ok, f, x, h => by
    have h' : (if e.1 = f then some e.2 else Tab.find T f) = some x := by rw [← Tr.beq_cases]; exact h
    by_cases hf : e.1 = f
    · rw [if_pos hf] at h'; cases h'
      subst hf
      exact ok e (by simp)
    · rw [if_neg hf] at h'
      exact Tab.find_ok (fun e he => ok e (by simp [he])) h'

end Go.Can
