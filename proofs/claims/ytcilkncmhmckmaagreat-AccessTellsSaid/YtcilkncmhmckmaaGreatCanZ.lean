/-
  Canonical code made short: words for symbolic runs.
-/
import Derived.Test.YtcilkncmhmckmaaGreatCanY
import Derived.Test.YtcilkncmhmckmaaGreatCanT
namespace Go.Can
open Go
set_option linter.all false

theorem sexec_loop {P : Program} {call : CCall} {n : Nat} {norm : List Nat} {b : SCode} {a : CAct} {W : CW} : sexec P call (n + 1) (.loop norm b) a W = match sexec P call n b a W with
    | some (.normal, a, W) => sexec P call n (.loop norm b) (keepF a norm) W
    | r => r := rfl

theorem sexec_seq {P : Program} {call : CCall} {n : Nat} {x y : SCode} {a : CAct} {W : CW} : sexec P call (n + 1) (.seq x y) a W = match sexec P call n x a W with
    | some (.normal, a, W) => sexec P call n y a W
    | r => r := rfl

theorem sexec_block {P : Program} {call : CCall} {n : Nat} {id : Nat} {b : SCode} {a : CAct} {W : CW} : sexec P call (n + 1) (.block id b) a W = match sexec P call n b a W with
    | some (.exit i, a, W) => if i = id then some (.normal, a, W) else some (.exit i, a, W)
    | r => r := rfl

theorem puts_one {cs : List Value} {o : Nat} (v : Value) (h : o < cs.length) : puts cs o [v] = some (cs.set o v) := by
  simp only [puts, List.length_singleton]
  rw [if_pos (by omega)]
  congr 1
  apply List.ext_getElem?
  intro j
  rw [List.getElem?_append, List.getElem?_set]
  by_cases hj : j < (cs.take o).length
  · rw [if_pos hj]
    have hj2 : j < o := by simp at hj; omega
    rw [List.getElem?_take, if_pos hj2, if_neg (by omega)]
  · rw [if_neg hj]
    simp at hj
    have hlen : (cs.take o).length = o := by simp; omega
    rw [hlen]
    by_cases e : o = j
    · subst e; simp [h]
    · have : o < j := by omega
      rw [if_neg e]
      obtain ⟨d, rfl⟩ : ∃ d, j = o + 1 + d := ⟨j - (o + 1), by omega⟩
      rw [show o + 1 + d - o = d + 1 by omega]
      simp

theorem puts_full {cs xs : List Value} (h : xs.length = cs.length) : puts cs 0 xs = some xs := by
  simp [puts, h]

theorem wrap_i64 {x : Int} (h1 : -(2 ^ 63) ≤ x) (h2 : x < 2 ^ 63) : IntKind.i64.wrap x = x := by
  simp [IntKind.wrap, IntKind.signed, IntKind.bits]
  omega

/-- A function's short code, and its results. -/
def shortOf (P : Program) (f : FuncId) (L : List (List Nat)) : Option (SCode × List (Nat × Option (Option Nat))) :=
  match rfn P f with
  | some R => some ((opt R.body L).1, R.res)
  | none => none

theorem rcall_by {P : Program} {orc : Orc} {n : Nat} {f : FuncId} {args : List Value} {W W' : CW} {S : SCode} {res : List (Nat × Option (Option Nat))} {L : List (List Nat)} (hS : shortOf P f L = some (S, res)) {e : CExit} {s' : CAct} {vs : List Value}
    (ha : ask orc f args W = none) (hv : sexec P (rcall P orc n) (n + 1) S (params 0 args .nil) W = some (e, s', W')) (he : ∀ i, e ≠ .exit i) (hr : resultsL s' W' res = some vs) : rcall P orc (n + 1) f args W = some (resultOf vs, W') := by
  unfold shortOf at hS
  split at hS
  · rename_i R hR; cases hS
    exact rcall_short ha hR rfl hv he hr
  · cases hS

end Go.Can
