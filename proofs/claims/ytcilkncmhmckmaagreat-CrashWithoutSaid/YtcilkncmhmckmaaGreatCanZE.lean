/-
  Canonical runs by a table of short codes.
-/
import Derived.Test.YtcilkncmhmckmaaGreatCanZP
namespace Go.Can
open Go
set_option linter.all false

abbrev Tab := List (FuncId × SCode × List (Nat × Option (Option Nat)))

def Tab.find : Tab → FuncId → Option (SCode × List (Nat × Option (Option Nat)))
  | [], _ => none
  | e :: l, f => Bool.casesOn (motive := fun _ => Option (SCode × List (Nat × Option (Option Nat)))) (Nat.beq e.1 f) (Tab.find l f) (some e.2)

def TabOk (P : Program) (T : Tab) : Prop := ∀ e ∈ T, ∃ L, shortP P e.1 L = some e.2

theorem Tab.find_ok {P : Program} : ∀ {T : Tab}, TabOk P T → ∀ {f : FuncId} {x : SCode × List (Nat × Option (Option Nat))}, Tab.find T f = some x → ∃ L, shortP P f L = some x
  | [], _, f, x, h => by cases h
  | e :: T, ok, f, x, h => by
    have h' : (if e.1 = f then some e.2 else Tab.find T f) = some x := by rw [← Tr.beq_cases]; exact h
    by_cases hf : e.1 = f
    · rw [if_pos hf] at h'; cases h'
      subst hf
      exact ok e (by simp)
    · rw [if_neg hf] at h'
      exact Tab.find_ok (fun e he => ok e (by simp [he])) h'

/-- The interpreter over a table of short codes. -/
def tcall (P : Program) (orc : Orc) (T : Tab) : Nat → FuncId → List Value → CW → Option (Value × CW)
  | 0, _, _, _ => none
  | n + 1, f, args, W => match ask orc f args with
    | some b => some (.bool b, W)
    | none => match Tab.find T f with
      | none => none
      | some (S, res) => match sexec P (tcall P orc T n) (n + 1) S (params 0 args .nil) W with
        | some (.exit _, _, _) => none
        | some (_, a, W') => match resultsL a W' res with
          | some vs => some (resultOf vs, W')
          | none => none
        | none => none

theorem tcall_sound {P : Program} {orc : Orc} {T : Tab} (ok : TabOk P T) : ∀ (n : Nat), CMore (tcall P orc T n) (rcall P orc n)
  | 0, f, args, W, r, h => by cases h
  | n + 1, f, args, W, r, h => by
    simp only [tcall] at h
    split at h
    · rename_i b hb; simp only [rcall, hb]; exact h
    · rename_i ha
      split at h
      · cases h
      · rename_i S res hS
        obtain ⟨L, hL⟩ := Tab.find_ok ok hS
        split at h
        · cases h
        · rename_i e a W' hno hx
          split at h
          · rename_i vs hvs
            cases h
            exact rcall_byP hL ha (sexec_more (tcall_sound ok n) _ _ (Nat.le_refl _) _ _ _ _ hx) (fun i hi => by subst hi; first | exact hno rfl | exact hno _ rfl | exact hno _ _ rfl | exact hno _ _ _ rfl) hvs
          · cases h
        · cases h

end Go.Can
