/-
  The canonical semantics by itself: beyond the next number there is nothing.
-/
import Derived.Test.YtcilkncmhmckmaaGreatCanK
namespace Go.Can
open Go
set_option linter.all false

def Fresh (W : CW) : Prop := ∀ b, W.next ≤ b → W.get b = none

theorem Fresh.lt {W : CW} (h : Fresh W) {b : Nat} (hb : W.get b ≠ none) : b < W.next := by
  rcases Nat.lt_or_ge b W.next with h1 | h1
  · exact h1
  · exact absurd (h b h1) hb

theorem Fresh.put {W : CW} (h : Fresh W) {b : Nat} (hb : W.get b ≠ none) (o : CObj) : Fresh (W.put b o) := by
  intro j hj
  have := h.lt hb
  simp at hj
  rw [CW.get_put, if_neg (by omega)]; exact h j hj

theorem Fresh.putR {W : CW} (h : Fresh W) {b : Nat} (hb : W.get b ≠ none) (cs : List Value) (lo n : Nat) : Fresh (W.putR b cs lo n) := by
  intro j hj
  have := h.lt hb
  simp at hj
  rw [CW.get_putR, if_neg (by omega)]; exact h j hj

theorem Fresh.push {W : CW} (h : Fresh W) (o : CObj) : Fresh (W.push o) := by
  intro j hj
  simp at hj
  rw [CW.get_push, if_neg (by omega)]; exact h j (by omega)

theorem Fresh.bear {W : CW} (h : Fresh W) {b : Nat} (hb : b < W.next) (o : CObj) : Fresh (W.bear b o) := by
  intro j hj
  simp at hj
  rw [CW.get_bear, if_neg (by omega)]; exact h j hj

theorem Fresh.reserve {W : CW} (h : Fresh W) (k : Nat) : Fresh (W.reserve k) := fun j hj => h j (by simp at hj; omega)

theorem xop_fresh {P : Program} {a : CAct} {o : XOp} {W W' : CW} {nx : RNext} (hv : xop P a o W = some (nx, W')) (h : Fresh W) : Fresh W' := by
  cases o with
  | store n p x =>
    simp only [xop] at hv
    split at hv
    · split at hv
      · rename_i W1 h1; cases hv
        unfold cstore at h1
        split at h1
        · split at h1
          · rename_i hg
            split at h1
            · split at h1
              · cases h1; exact h.putR (by rw [hg]; simp) _ _ _
              · cases h1
            · cases h1
          · cases h1
        · cases h1
      · cases hv
    · cases hv
  | mput m k x =>
    simp only [xop] at hv
    split at hv
    · split at hv
      · rename_i hg
        split at hv
        · cases hv; exact h.put (by rw [hg]; simp) _
        · cases hv; exact h.put (by rw [hg]; simp) _
        · cases hv
      · cases hv
    · cases hv
  | app size bytes s x =>
    simp only [xop] at hv
    split at hv
    · split at hv
      · rename_i v W1 h1; cases hv
        unfold capp at h1
        split at h1
        · split at h1
          · split at h1
            · split at h1
              · cases h1; exact h
              · cases h1
            · split at h1
              · split at h1
                · cases h1; exact h.push _
                · cases h1
              · split at h1
                · rename_i hg
                  split at h1
                  · split at h1
                    · split at h1
                      · cases h1; exact h.putR (by rw [hg]; simp) _ _ _
                      · cases h1
                    · cases h1
                  · split at h1
                    · cases h1
                    · split at h1
                      · cases h1; exact h.push _
                      · split at h1
                        · cases h1; exact (h.put (by rw [hg]; simp) _).push _
                        · cases h1
                · cases h1
          · cases h1
        · cases h1
      · cases hv
    · cases hv
  | cpy size d x =>
    simp only [xop] at hv
    split at hv
    · split at hv
      · rename_i v W1 h1; cases hv
        unfold ccpy at h1
        split at h1
        · split at h1
          · cases h1; exact h
          · split at h1
            · split at h1
              · rename_i hg2 hg
                split at h1
                · split at h1
                  · cases h1; exact h.putR (by rw [hg]; simp) _ _ _
                  · cases h1
                · cases h1
              · cases h1
            · cases h1
        · cases h1
      · cases hv
    · cases hv
  | clr z s =>
    simp only [xop] at hv
    split at hv
    · split at hv
      · rename_i W1 h1; cases hv
        unfold cclr at h1
        split at h1
        · cases h1; exact h
        · split at h1
          · cases h1; exact h
          · split at h1
            · rename_i hg
              split at h1
              · cases h1; exact h.putR (by rw [hg]; simp) _ _ _
              · cases h1
            · cases h1
        · cases h1
      · cases hv
    · cases hv
  | callF f args =>
    simp only [xop] at hv
    split at hv
    · cases hv; exact h
    · cases hv
  | call f args =>
    simp only [xop] at hv
    split at hv
    · cases hv; exact h
    · cases hv
  | invoke name r args =>
    simp only [xop] at hv
    split at hv
    · split at hv
      · cases hv; exact h
      · cases hv
    · cases hv

def CFresh (call : CCall) : Prop := ∀ f args W v W', call f args W = some (v, W') → Fresh W → Fresh W'

section
variable {P : Program} {call : CCall} (hc : CFresh call) (hB : CBoth call)
include hc

theorem doX_fresh {a : CAct} {o : XOp} {W W' : CW} {v : Value} (hv : doX P call a o W = some (v, W')) (h : Fresh W) : Fresh W' := by
  unfold doX at hv
  split at hv
  · rename_i h1; cases hv; exact xop_fresh h1 h
  · rename_i h1; exact hc _ _ _ _ _ hv (xop_fresh h1 h)
  · cases hv

theorem doOp_fresh {a : CAct} {o : ROp} {W W' : CW} {v : Value} (hv : doOp P call a o W = some (v, W')) (h : Fresh W) : Fresh W' := by
  cases o with
  | p o => simp only [doOp] at hv; split at hv <;> cases hv; exact h
  | l o => simp only [doOp] at hv; split at hv <;> cases hv; exact h
  | a o => simp only [doOp] at hv; split at hv <;> cases hv; exact h.push _
  | x o => exact doX_fresh hc hv h

theorem rsteps_fresh : ∀ (l : List RStep) (a : CAct) (W : CW) (a' : CAct) (W' : CW), rsteps P call l a W = some (a', W') → Fresh W → Fresh W'
  | [], a, W, a', W', hv, h => by simp only [rsteps, Option.some.injEq, Prod.mk.injEq] at hv; obtain ⟨rfl, rfl⟩ := hv; exact h
  | s :: l, a, W, a', W', hv, h => by
    simp only [rsteps] at hv
    split at hv
    · split at hv
      · rename_i h1; exact rsteps_fresh l _ _ _ _ hv (doOp_fresh hc h1 h)
      · cases hv
    · exact rsteps_fresh l _ _ _ _ hv h
    · cases hv

theorem Fresh.maskL {W : CW} (h : Fresh W) : ∀ (l : List Nat), (∀ b ∈ l, b < W.next) → Fresh (Can.maskL W l)
  | [], _ => h
  | b :: l, hl => (Fresh.maskL h l fun b hb => hl b (by simp [hb])).bear (by simp; exact hl b (by simp)) _

theorem Fresh.unmaskL {W0 W : CW} (h : Fresh W) : ∀ (l : List Nat), (∀ b ∈ l, b < W.next) → Fresh (Can.unmaskL W0 W l)
  | [], _ => h
  | b :: l, hl => (Fresh.unmaskL h l fun b hb => hl b (by simp [hb])).bear (by simp; exact hl b (by simp)) _

include hB in
theorem rdraw_fresh {base : Nat} : ∀ (l : List RStep) (recs : List Rec) (a : CAct) (W : CW) (a' : CAct) (W' : CW), rdraw P call base l recs a W = some (a', W') →
    (∀ (k b : Nat), recs[k]? = some (Rec.a b) → b < W.next) → base + recs.length + l.length ≤ W.next → Fresh W → Fresh W'
  | [], recs, a, W, a', W', hv, _, _, h => by simp only [rdraw, Option.some.injEq, Prod.mk.injEq] at hv; obtain ⟨rfl, rfl⟩ := hv; exact h
  | s :: l, recs, a, W, a', W', hv, hr, hn, h => by
    simp only [rdraw] at hv
    split at hv
    · rename_i v W1 rc h1
      have hrec : ∀ (W2 : CW), W.next ≤ W2.next → (∀ b, rc = Rec.a b → b < W2.next) → ∀ (k b : Nat), (recs ++ [rc])[k]? = some (Rec.a b) → b < W2.next := by
        intro W2 hle hb k b hk
        rw [List.getElem?_append] at hk
        split at hk
        · exact Nat.lt_of_lt_of_le (hr k b hk) hle
        · have : k - recs.length = 0 := by
            by_cases hq : k - recs.length = 0
            · exact hq
            · rw [List.getElem?_eq_none (by simp; omega)] at hk; cases hk
          rw [this] at hk
          simp at hk
          exact hb b hk
      simp only [List.length_cons] at hn
      have hlen : (recs ++ [rc]).length = recs.length + 1 := by simp
      unfold dstep at h1
      split at h1
      · cases h1
      · cases h1; exact rdraw_fresh l _ _ _ _ _ hv (hrec _ (Nat.le_refl _) fun b hb => by cases hb) (by omega) h
      · split at h1
        · split at h1 <;> cases h1
          exact rdraw_fresh l _ _ _ _ _ hv (hrec _ (Nat.le_refl _) fun b hb => by cases hb) (by omega) h
        · split at h1
          · cases h1; exact rdraw_fresh l _ _ _ _ _ hv (hrec _ (Nat.le_refl _) fun b hb => by cases hb) (by omega) h
          · split at h1
            · cases h1
            · split at h1
              · cases h1
              · split at h1
                · split at h1 <;> cases h1
                  exact rdraw_fresh l _ _ _ _ _ hv (hrec _ (Nat.le_refl _) fun b hb => by cases hb) (by omega) h
                · split at h1 <;> cases h1
                  exact rdraw_fresh l _ _ _ _ _ hv (hrec _ (Nat.le_refl _) fun b hb => by cases hb) (by omega) h
          · cases h1
        · split at h1 <;> cases h1
          exact rdraw_fresh l _ _ _ _ _ hv (hrec (W.bear _ _) (Nat.le_refl _) fun b hb => by cases hb; simp; omega) (by simp; omega) (h.bear (by omega) _)
        · split at h1
          · rename_i v1 W2 hX
            split at h1
            · cases h1
              have hm : ∀ b ∈ masks s.pre recs 0, b < W.next := by
                intro b hb
                obtain ⟨k, h2, _⟩ := (masks_mem recs 0).1 hb
                exact hr k b h2
              have hf2 := doX_fresh hc hX (show Fresh _ from Fresh.maskL hc h _ hm)
              obtain ⟨nl, _, hle, _⟩ := (doX_both hB hX).keeps
              have hle' : W.next ≤ W2.next := by simpa using hle
              exact rdraw_fresh l _ _ _ _ _ hv (hrec _ (by simpa using hle') fun b hb => by cases hb) (by simp; omega) (show Fresh _ from Fresh.unmaskL hc hf2 _ fun b hb => Nat.lt_of_lt_of_le (hm b hb) hle')
            · cases h1
          · cases h1
    · cases hv

include hB in
theorem rexec_fresh : ∀ (n : Nat) (c : RCode) (a : CAct) (W : CW) (e : CExit) (a' : CAct) (W' : CW), rexec P call n c a W = some (e, a', W') → Fresh W → Fresh W' := by
  intro n
  induction n with
  | zero => intro c a W e a' W' hv; cases hv
  | succ n ih =>
    intro c a W e a' W' hv h
    cases c with
    | skip => simp only [rexec] at hv; cases hv; exact h
    | exit id => simp only [rexec] at hv; cases hv; exact h
    | ret => simp only [rexec] at hv; cases hv; exact h
    | region ops =>
      simp only [rexec] at hv
      split at hv
      · rename_i h1; cases hv; exact rsteps_fresh hc _ _ _ _ _ h1 h
      · cases hv
    | draw ops =>
      simp only [rexec] at hv
      split at hv
      · rename_i h1; cases hv
        exact rdraw_fresh hc hB _ _ _ _ _ _ h1 (fun k b hk => by simp at hk) (by simp) (h.reserve _)
      · cases hv
    | seq x y =>
      simp only [rexec] at hv
      split at hv
      · rename_i h1; exact ih _ _ _ _ _ _ hv (ih _ _ _ _ _ _ h1 h)
      · exact ih _ _ _ _ _ _ hv h
    | cond o x y =>
      simp only [rexec] at hv
      split at hv
      · exact ih _ _ _ _ _ _ hv h
      · exact ih _ _ _ _ _ _ hv h
      · cases hv
    | block id b =>
      simp only [rexec] at hv
      split at hv
      · rename_i h1
        split at hv
        · cases hv; exact ih _ _ _ _ _ _ h1 h
        · cases hv; exact ih _ _ _ _ _ _ h1 h
      · exact ih _ _ _ _ _ _ hv h
    | loop b =>
      simp only [rexec] at hv
      split at hv
      · rename_i h1; exact ih _ _ _ _ _ _ hv (ih _ _ _ _ _ _ h1 h)
      · exact ih _ _ _ _ _ _ hv h

end

theorem ask_fresh {orc : Orc} {f : FuncId} {args : List Value} {W W' : CW} {v : Value} (hv : ask orc f args W = some (some (v, W'))) (h : Fresh W) : Fresh W' := by
  unfold ask at hv
  split at hv
  · cases hv; exact h
  · simp only [Option.some.injEq] at hv
    unfold sortR at hv
    split at hv
    · rename_i W1 h1; cases hv
      unfold sortV at h1
      split at h1
      · split at h1
        · cases h1; exact h
        · split at h1
          · split at h1
            · rename_i hg
              split at h1
              · split at h1
                · split at h1
                  · split at h1
                    · cases h1; exact h.putR (by rw [hg]; simp) _ _ _
                    · cases h1
                  · cases h1
                · cases h1
              · cases h1
            · cases h1
          · cases h1
      · cases h1
    · cases hv
  · cases hv

theorem rcall_fresh (P : Program) (orc : Orc) : ∀ n, CFresh (rcall P orc n) := by
  intro n
  induction n with
  | zero => intro f args W v W' hv; cases hv
  | succ n ih =>
    intro f args W v W' hv h
    simp only [rcall] at hv
    split at hv
    · rename_i q hq; subst hv; exact ask_fresh hq h
    · split at hv
      · cases hv
      · split at hv
        · cases hv
        · rename_i h1
          split at hv
          · cases hv; exact rexec_fresh ih (rcall_both P orc n) _ _ _ _ _ _ _ h1 h
          · cases hv
        · cases hv

end Go.Can
