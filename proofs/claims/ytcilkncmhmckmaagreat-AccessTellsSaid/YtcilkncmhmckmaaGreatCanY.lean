/-
  Canonical code made short: a call, told by the short code.
-/
import Derived.Test.YtcilkncmhmckmaaGreatCanX
namespace Go.Can
open Go
set_option linter.all false

theorem resultsL_sub {s a : CAct} (h : Sub s a) {W : CW} : ∀ {l : List (Nat × Option (Option Nat))} {vs : List Value}, resultsL s W l = some vs → resultsL a W l = some vs
  | [], vs, hv => hv
  | (t, k) :: l, vs, hv => by
    simp only [resultsL] at hv ⊢
    split at hv
    · rename_i v us h1 h2
      have e1 : result1 a W (t, k) = some v := by
        cases k with
        | none => exact h t v h1
        | some k =>
          simp only [result1] at h1 ⊢
          split at h1
          · rename_i hb; rw [h _ _ hb]; exact h1
          · cases h1
      rw [e1, resultsL_sub h h2]; exact hv
    · cases hv

/-- A call, by its short code. -/
theorem rcall_short {P : Program} {orc : Orc} {n : Nat} {f : FuncId} {args : List Value} {W W' : CW} {R : RFunc} {S : SCode} {L : List (List Nat)} {e : CExit} {s' : CAct} {vs : List Value} (ha : ask orc f args W = none) (hR : rfn P f = some R) (hS : (opt R.body L).1 = S)
    (hv : sexec P (rcall P orc n) (n + 1) S (params 0 args .nil) W = some (e, s', W')) (he : ∀ i, e ≠ .exit i) (hr : resultsL s' W' R.res = some vs) : rcall P orc (n + 1) f args W = some (resultOf vs, W') := by
  subst hS
  obtain ⟨a', h1, h2⟩ := opt_sound (n + 1) R.body L _ _ W e s' W' (Sub.refl _) hv
  have h3 := resultsL_sub h2 hr
  simp only [rcall, ha, hR, h1]
  cases e with
  | exit i => exact absurd rfl (he i)
  | normal => simp only [h3]
  | ret => simp only [h3]

/-! More fuel does no harm. -/
def CMore (c c' : CCall) : Prop := ∀ f args W r, c f args W = some r → c' f args W = some r

section
variable {P : Program} {c c' : CCall} (h : CMore c c')
include h

theorem doX_more {a : CAct} {o : XOp} {W : CW} {r : Value × CW} (hv : doX P c a o W = some r) : doX P c' a o W = some r := by
  unfold doX at hv ⊢
  split at hv
  · exact hv
  · exact h _ _ _ _ hv
  · cases hv

theorem doOp_more {a : CAct} {o : ROp} {W : CW} {r : Value × CW} (hv : doOp P c a o W = some r) : doOp P c' a o W = some r := by
  cases o with
  | x o => exact doX_more h hv
  | _ => exact hv

theorem rsteps_more : ∀ (l : List RStep) (a : CAct) (W : CW) (r : CAct × CW), rsteps P c l a W = some r → rsteps P c' l a W = some r
  | [], a, W, r, hv => hv
  | s :: l, a, W, r, hv => by
    simp only [rsteps] at hv ⊢
    split at hv
    · rename_i hw
      split at hv
      · rename_i h1; simp only [doOp_more h h1]; exact rsteps_more l _ _ _ hv
      · cases hv
    · exact rsteps_more l _ _ _ hv
    · cases hv

theorem rdraw_more {base : Nat} : ∀ (l : List RStep) (recs : List Rec) (a : CAct) (W : CW) (r : CAct × CW), rdraw P c base l recs a W = some r → rdraw P c' base l recs a W = some r
  | [], recs, a, W, r, hv => hv
  | s :: l, recs, a, W, r, hv => by
    simp only [rdraw] at hv ⊢
    split at hv
    · rename_i v W1 rc h1
      have e : dstep P c' base s recs (sub a s.look) W = some (v, W1, rc) := by
        unfold dstep at h1 ⊢
        split at h1
        · cases h1
        · exact h1
        · split at h1
          · exact h1
          · exact h1
          · exact h1
          · split at h1
            · rename_i h2; simp only [doX_more h h2]; exact h1
            · cases h1
      simp only [e]; exact rdraw_more l _ _ _ _ hv
    · cases hv

theorem snodes_more : ∀ (l : List SN) (a : CAct) (W : CW) (r : CAct × CW), snodes P c l a W = some r → snodes P c' l a W = some r
  | [], a, W, r, hv => hv
  | s :: l, a, W, r, hv => by
    simp only [snodes] at hv ⊢
    split at hv
    · rename_i a1 W1 h1
      have e : snode P c' s a W = some (a1, W1) := by
        cases s with
        | seg ms outs => exact h1
        | raw s => exact rsteps_more h _ _ _ _ h1
      simp only [e]; exact snodes_more l _ _ _ hv
    · cases hv

theorem sexec_more : ∀ (n m : Nat), n ≤ m → ∀ (S : SCode) (a : CAct) (W : CW) (r : CExit × CAct × CW), sexec P c n S a W = some r → sexec P c' m S a W = some r := by
  intro n
  induction n with
  | zero => intro m _ S a W r hv; cases hv
  | succ n ih =>
    intro m hm S a W r hv
    obtain ⟨m, rfl⟩ : ∃ k, m = k + 1 := ⟨m - 1, by omega⟩
    have ih' := ih m (by omega)
    cases S with
    | skip => exact hv
    | exit id => exact hv
    | ret => exact hv
    | quiet k ms outs => exact hv
    | segs l =>
      simp only [sexec] at hv ⊢
      split at hv
      · rename_i h1; simp only [snodes_more h _ _ _ _ h1]; exact hv
      · cases hv
    | draw ops =>
      simp only [sexec] at hv ⊢
      split at hv
      · rename_i h1; simp only [rdraw_more h _ _ _ _ _ h1]; exact hv
      · cases hv
    | seq x y =>
      simp only [sexec] at hv ⊢
      split at hv
      · rename_i h1; simp only [ih' _ _ _ _ h1]; exact ih' _ _ _ _ hv
      · rename_i hno
        simp only [ih' _ _ _ _ hv]
        obtain ⟨e, a1, W1⟩ := r
        cases e with
        | normal => exact absurd hv (hno _ _)
        | _ => rfl
    | cond o x y =>
      simp only [sexec] at hv ⊢
      split at hv
      · exact ih' _ _ _ _ hv
      · exact ih' _ _ _ _ hv
      · cases hv
    | block id b =>
      simp only [sexec] at hv ⊢
      split at hv
      · rename_i h1; simp only [ih' _ _ _ _ h1]; exact hv
      · rename_i hno
        simp only [ih' _ _ _ _ hv]
        obtain ⟨e, a1, W1⟩ := r
        cases e with
        | exit i => exact absurd hv (hno _ _ _)
        | _ => rfl
    | loop norm b =>
      simp only [sexec] at hv ⊢
      split at hv
      · rename_i h1; simp only [ih' _ _ _ _ h1]; exact ih' _ _ _ _ hv
      · rename_i hno
        simp only [ih' _ _ _ _ hv]
        obtain ⟨e, a1, W1⟩ := r
        cases e with
        | normal => exact absurd hv (hno _ _)
        | _ => rfl

theorem rexec_more : ∀ (n m : Nat), n ≤ m → ∀ (S : RCode) (a : CAct) (W : CW) (r : CExit × CAct × CW), rexec P c n S a W = some r → rexec P c' m S a W = some r := by
  intro n
  induction n with
  | zero => intro m _ S a W r hv; cases hv
  | succ n ih =>
    intro m hm S a W r hv
    obtain ⟨m, rfl⟩ : ∃ k, m = k + 1 := ⟨m - 1, by omega⟩
    have ih' := ih m (by omega)
    cases S with
    | skip => exact hv
    | exit id => exact hv
    | ret => exact hv
    | region l =>
      simp only [rexec] at hv ⊢
      split at hv
      · rename_i h1; simp only [rsteps_more h _ _ _ _ h1]; exact hv
      · cases hv
    | draw ops =>
      simp only [rexec] at hv ⊢
      split at hv
      · rename_i h1; simp only [rdraw_more h _ _ _ _ _ h1]; exact hv
      · cases hv
    | seq x y =>
      simp only [rexec] at hv ⊢
      split at hv
      · rename_i h1; simp only [ih' _ _ _ _ h1]; exact ih' _ _ _ _ hv
      · rename_i hno
        simp only [ih' _ _ _ _ hv]
        obtain ⟨e, a1, W1⟩ := r
        cases e with
        | normal => exact absurd hv (hno _ _)
        | _ => rfl
    | cond o x y =>
      simp only [rexec] at hv ⊢
      split at hv
      · exact ih' _ _ _ _ hv
      · exact ih' _ _ _ _ hv
      · cases hv
    | block id b =>
      simp only [rexec] at hv ⊢
      split at hv
      · rename_i h1; simp only [ih' _ _ _ _ h1]; exact hv
      · rename_i hno
        simp only [ih' _ _ _ _ hv]
        obtain ⟨e, a1, W1⟩ := r
        cases e with
        | exit i => exact absurd hv (hno _ _ _)
        | _ => rfl
    | loop b =>
      simp only [rexec] at hv ⊢
      split at hv
      · rename_i h1; simp only [ih' _ _ _ _ h1]; exact ih' _ _ _ _ hv
      · rename_i hno
        simp only [ih' _ _ _ _ hv]
        obtain ⟨e, a1, W1⟩ := r
        cases e with
        | normal => exact absurd hv (hno _ _)
        | _ => rfl
end

theorem rcall_more (P : Program) (orc : Orc) : ∀ (n m : Nat), n ≤ m → CMore (rcall P orc n) (rcall P orc m) := by
  intro n
  induction n with
  | zero => intro m _ f args W r hv; cases hv
  | succ n ih =>
    intro m hm f args W r hv
    obtain ⟨m, rfl⟩ : ∃ k, m = k + 1 := ⟨m - 1, by omega⟩
    simp only [rcall] at hv ⊢
    split at hv
    · exact hv
    · split at hv
      · cases hv
      · split at hv
        · cases hv
        · rename_i e a1 W1 hno h1
          have := rexec_more (ih m (by omega)) (n + 1) (m + 1) hm _ _ _ _ h1
          simp only [this]
          cases e with
          | exit i => first | exact (hno _ _ rfl).elim | exact (hno _ rfl).elim | exact (hno _ _ _ rfl).elim | exact (hno i rfl).elim
          | normal => exact hv
          | ret => exact hv
        · cases hv

end Go.Can
