/-
  Canonical code made short: expressions that are asked for, and stand strictly within others, are dropped.
-/
import Derived.Test.YtcilkncmhmckmaaGreatCanZ
namespace Go.Can
open Go
set_option linter.all false

def vsame : Value → Value → Bool
  | .bool a, .bool b => a == b
  | .int k a, .int k' b => decide (k = k') && decide (a = b)
  | .nilIface, .nilIface => true
  | .nilFunc, .nilFunc => true
  | .pointer none, .pointer none => true
  | .map none, .map none => true
  | .slice none a b, .slice none a' b' => decide (a = a') && decide (b = b')
  | _, _ => false

theorem vsame_eq {x y : Value} (h : vsame x y = true) : x = y := by
  unfold vsame at h
  split at h <;> simp_all

def ksame : EqK → EqK → Bool
  | .prim, .prim | .str, .str | .ptr, .ptr | .ifc, .ifc | .slc, .slc | .mp, .mp | .fn, .fn => true
  | .flat a, .flat b => a == b
  | _, _ => false

theorem ksame_eq {x y : EqK} (h : ksame x y = true) : x = y := by
  unfold ksame at h
  split at h <;> simp_all

def EX.same : EX → EX → Bool
  | .t m, .t n => m == n
  | .c u, .c v => vsame u v
  | .gd q w x, .gd q' w' x' => EX.same q q' && w == w' && EX.same x x'
  | .pick x y z, .pick x' y' z' => EX.same x x' && EX.same y y' && EX.same z z'
  | .nchk x, .nchk x' => EX.same x x'
  | .bin o x y, .bin o' x' y' => decide (o = o') && EX.same x x' && EX.same y y'
  | .eq k n x y, .eq k' n' x' y' => ksame k k' && n == n' && EX.same x x' && EX.same y y'
  | .un o x, .un o' x' => decide (o = o') && EX.same x x'
  | .conv k x, .conv k' x' => decide (k = k') && EX.same x x'
  | .fad o x, .fad o' x' => o == o' && EX.same x x'
  | .fld k o x, .fld k' o' x' => k == k' && o == o' && EX.same x x'
  | .iad a s x y, .iad a' s' x' y' => a == a' && s == s' && EX.same x x' && EX.same y y'
  | .idx n k s x y, .idx n' k' s' x' y' => n == n' && k == k' && s == s' && EX.same x x' && EX.same y y'
  | .ext x i, .ext x' i' => EX.same x x' && i == i'
  | .slen x, .slen x' => EX.same x x'
  | .tlen x, .tlen x' => EX.same x x'
  | .lenc n x, .lenc n' x' => n == n' && EX.same x x'
  | .max2 x y, .max2 x' y' => EX.same x x' && EX.same y y'
  | .min2 x y, .min2 x' y' => EX.same x x' && EX.same y y'
  | .sidx x y, .sidx x' y' => EX.same x x' && EX.same y y'
  | .load k x, .load k' x' => k == k' && EX.same x x'
  | .look z m k ok, .look z' m' k' ok' => vsame z z' && EX.same m m' && EX.same k k' && ok == ok'
  | .mlen m, .mlen m' => EX.same m m'
  | _, _ => false

theorem EX.same_eq : ∀ (x y : EX), EX.same x y = true → x = y := by
  intro x
  induction x <;> intro y h <;> cases y <;> simp only [EX.same, Bool.and_eq_true, beq_iff_eq, decide_eq_true_eq, Bool.false_eq_true] at h <;> grind [vsame_eq, ksame_eq]

def EX.isC : EX → Bool
  | .c _ => true
  | _ => false

/-- Does the second come to something only where the first... the other way about: is the second told, if the first is? -/
def EX.cov : EX → EX → Bool
  | .gd q w e, x => x.isC || EX.same x (.gd q w e) || EX.cov q x || (match x with | .gd q' w' x' => EX.same q' q && w' == w && EX.cov e x' | _ => false)
  | .pick q a b, x => x.isC || EX.same x (.pick q a b) || EX.cov q x || (match x with | .gd q' w' x' => EX.same q' q && (if w' then EX.cov a x' else EX.cov b x') | _ => false)
  | .nchk e, x => x.isC || EX.same x (.nchk e) || EX.cov e x
  | .bin o a b, x => x.isC || EX.same x (.bin o a b) || EX.cov a x || EX.cov b x
  | .eq k n a b, x => x.isC || EX.same x (.eq k n a b) || EX.cov a x || EX.cov b x
  | .un o e, x => x.isC || EX.same x (.un o e) || EX.cov e x
  | .conv k e, x => x.isC || EX.same x (.conv k e) || EX.cov e x
  | .iface ty e, x => x.isC || EX.cov e x
  | .slc arr size fl fh fm e lo hi mx, x => x.isC || EX.cov e x || (fl && EX.cov lo x) || (fh && EX.cov hi x) || (fm && EX.cov mx x)
  | .fad o e, x => x.isC || EX.same x (.fad o e) || EX.cov e x
  | .fld k o e, x => x.isC || EX.same x (.fld k o e) || EX.cov e x
  | .iad a s b i, x => x.isC || EX.same x (.iad a s b i) || EX.cov b x || EX.cov i x
  | .idx n k s b i, x => x.isC || EX.same x (.idx n k s b i) || EX.cov b x || EX.cov i x
  | .tass want z e ok, x => x.isC || EX.cov e x
  | .ext e i, x => x.isC || EX.same x (.ext e i) || EX.cov e x
  | .slen e, x => x.isC || EX.same x (.slen e) || EX.cov e x
  | .tlen e, x => x.isC || EX.same x (.tlen e) || EX.cov e x
  | .lenc n e, x => x.isC || EX.same x (.lenc n e) || EX.cov e x
  | .max2 a b, x => x.isC || EX.same x (.max2 a b) || EX.cov a x || EX.cov b x
  | .min2 a b, x => x.isC || EX.same x (.min2 a b) || EX.cov a x || EX.cov b x
  | .sidx a b, x => x.isC || EX.same x (.sidx a b) || EX.cov a x || EX.cov b x
  | .load k e, x => x.isC || EX.same x (.load k e) || EX.cov e x
  | .look z m k ok, x => x.isC || EX.same x (.look z m k ok) || EX.cov m x || EX.cov k x
  | .mlen m, x => x.isC || EX.same x (.mlen m) || EX.cov m x
  | .t n, x => x.isC || EX.same x (.t n)
  | .c v, x => x.isC

section
variable {P : Program} {a : CAct} {W : CW}

theorem isC_ev {x : EX} (h : x.isC = true) : (x.ev P a W).isSome = true := by
  cases x <;> first | rfl | simp [EX.isC] at h

theorem b1_some {x : Option Value} {f : Value → Option Value} (h : (b1 x f).isSome = true) : x.isSome = true := by
  cases x <;> simp_all [b1]

theorem b2_some {x y : Option Value} {f : Value → Value → Option Value} (h : (b2 x y f).isSome = true) : x.isSome = true ∧ y.isSome = true := by
  cases x <;> cases y <;> simp_all [b2]

theorem bo_some {has : Bool} {x : Option Value} {f : Option Value → Option Value} (h : (bo has x f).isSome = true) : (has = true → x.isSome = true) ∧ ∃ u, (f u).isSome = true := by
  unfold bo at h
  split at h
  · refine ⟨fun _ => b1_some h, ?_⟩
    cases x with
    | none => simp [b1] at h
    | some v => exact ⟨_, h⟩
  · rename_i hf
    exact ⟨fun h => absurd h hf, _, h⟩

theorem gdV_some {c : Option Value} {w : Bool} {x : Option Value} (h : (gdV c w x).isSome = true) : c.isSome = true ∧ ∀ y : Option Value, (x.isSome = true → y.isSome = true) → (gdV c w y).isSome = true := by
  unfold gdV at h ⊢
  split at h
  · rename_i b
    refine ⟨rfl, fun y hy => ?_⟩
    split
    · rename_i hb; rw [if_pos hb] at h; exact hy h
    · rfl
  · exact ⟨rfl, fun _ _ => rfl⟩
  · simp at h

theorem pickV_some {c x y : Option Value} (h : (pickV c x y).isSome = true) : c.isSome = true ∧ ∀ (w : Bool) (z : Option Value), ((if w then x else y).isSome = true → z.isSome = true) → (gdV c w z).isSome = true := by
  unfold pickV at h
  unfold gdV
  split at h
  · rename_i b
    refine ⟨rfl, fun w z hz => ?_⟩
    simp only
    split
    · rename_i hb; subst hb; exact hz h
    · rfl
  · simp at h

theorem EX.cov_sound : ∀ (e x : EX), EX.cov e x = true → (e.ev P a W).isSome = true → (x.ev P a W).isSome = true := by
  intro e
  induction e <;> intro x h hv <;> simp only [EX.cov, Bool.or_eq_true, Bool.and_eq_true] at h
  case gd c w e ihc ihe =>
    simp only [EX.ev] at hv
    obtain ⟨k1, k2⟩ := gdV_some hv
    rcases h with ((h | h) | h) | h
    · exact isC_ev h
    · rw [EX.same_eq _ _ h]; simpa only [EX.ev] using hv
    · exact ihc _ h k1
    · split at h
      · simp only [Bool.and_eq_true, beq_iff_eq] at h
        obtain ⟨⟨h1, rfl⟩, h3⟩ := h
        rw [EX.same_eq _ _ h1]
        simp only [EX.ev]
        exact k2 _ (ihe _ h3)
      · cases h
  case pick c x1 x2 ihc ih1 ih2 =>
    simp only [EX.ev] at hv
    obtain ⟨k1, k2⟩ := pickV_some hv
    rcases h with ((h | h) | h) | h
    · exact isC_ev h
    · rw [EX.same_eq _ _ h]; simpa only [EX.ev] using hv
    · exact ihc _ h k1
    · split at h
      · rename_i c' w' x'
        simp only [Bool.and_eq_true] at h
        obtain ⟨h1, h3⟩ := h
        rw [EX.same_eq _ _ h1]
        simp only [EX.ev]
        refine k2 w' _ fun hz => ?_
        cases w' with
        | true => exact ih1 _ h3 hz
        | false => exact ih2 _ h3 hz
      · cases h
  case t n => 
    rcases h with h | h
    · exact isC_ev h
    · rw [EX.same_eq _ _ h]; exact hv
  case c v => exact isC_ev h
  case slc arr size fl fh fm e lo hi mx ihe ihl ihh ihm =>
    simp only [EX.ev] at hv
    have he := b1_some hv
    rcases hq : e.ev P a W with _ | v
    · rw [hq] at he; cases he
    · rw [hq] at hv
      simp only [b1] at hv
      obtain ⟨k1, u1, hv⟩ := bo_some hv
      obtain ⟨k2, u2, hv⟩ := bo_some hv
      obtain ⟨k3, u3, hv⟩ := bo_some hv
      rcases h with (((h | h) | h) | h) | h
      · exact isC_ev h
      · exact ihe _ h he
      · exact ihl _ h.2 (k1 h.1)
      · exact ihh _ h.2 (k2 h.1)
      · exact ihm _ h.2 (k3 h.1)
  all_goals simp only [EX.ev] at hv
  all_goals first
    | (have k := b2_some hv
       rcases h with ((h | h) | h) | h
       · exact isC_ev h
       · rw [EX.same_eq _ _ h]; simpa only [EX.ev] using hv
       · rename_i ih1 ih2; first | exact ih1 _ h k.1 | exact ih2 _ h k.1
       · rename_i ih1 ih2; first | exact ih1 _ h k.2 | exact ih2 _ h k.2)
    | (have k := b1_some hv
       rcases h with (h | h) | h
       · exact isC_ev h
       · rw [EX.same_eq _ _ h]; simpa only [EX.ev] using hv
       · rename_i ih; exact ih _ h k)
    | (have k := b1_some hv
       rcases h with h | h
       · exact isC_ev h
       · rename_i ih; exact ih _ h k)
end

/-- Of what is asked for, what tells the rest. -/
def prune : List EX → List EX
  | [] => []
  | e :: l => if e.isC || l.any fun x => EX.cov x e then prune l else e :: prune l

theorem prune_sound {P : Program} {a : CAct} {W : CW} : ∀ (l : List EX), mustsOk P a W (prune l) = true → mustsOk P a W l = true
  | [], _ => rfl
  | e :: l, h => by
    simp only [prune] at h
    split at h
    · rename_i hc
      have h1 := prune_sound l h
      simp only [mustsOk, Bool.and_eq_true]
      refine ⟨?_, h1⟩
      simp only [Bool.or_eq_true, List.any_eq_true] at hc
      rcases hc with hc | ⟨x, hx, hc⟩
      · exact isC_ev hc
      · obtain ⟨v, hv⟩ := mustsOk_mem h1 x hx
        exact EX.cov_sound x e hc (by rw [hv]; rfl)
    · simp only [mustsOk, Bool.and_eq_true] at h ⊢
      exact ⟨h.1, prune_sound l h.2⟩

def pruneN : SN → SN
  | .seg ms outs => .seg (prune ms) outs
  | .raw s => .raw s

def pruneS : SCode → SCode
  | .segs l => .segs (l.map pruneN)
  | .quiet k ms outs => .quiet k (prune ms) outs
  | .seq x y => .seq (pruneS x) (pruneS y)
  | .cond c x y => .cond c (pruneS x) (pruneS y)
  | .block i b => .block i (pruneS b)
  | .loop norm b => .loop norm (pruneS b)
  | .skip => .skip
  | .draw l => .draw l
  | .exit i => .exit i
  | .ret => .ret

theorem pruneN_sound {P : Program} {call : CCall} : ∀ (l : List SN) (a : CAct) (W : CW) (r : CAct × CW), snodes P call (l.map pruneN) a W = some r → snodes P call l a W = some r
  | [], a, W, r, hv => hv
  | s :: l, a, W, r, hv => by
    simp only [List.map_cons, snodes] at hv ⊢
    split at hv
    · rename_i a1 W1 h1
      have e : snode P call s a W = some (a1, W1) := by
        cases s with
        | seg ms outs =>
          simp only [pruneN, snode] at h1 ⊢
          split at h1
          · rename_i hm; rw [if_pos (prune_sound _ hm)]; exact h1
          · cases h1
        | raw s => exact h1
      simp only [e]; exact pruneN_sound l _ _ _ hv
    · cases hv

theorem pruneS_sound {P : Program} {call : CCall} : ∀ (n : Nat) (S : SCode) (a : CAct) (W : CW) (r : CExit × CAct × CW), sexec P call n (pruneS S) a W = some r → sexec P call n S a W = some r := by
  intro n
  induction n with
  | zero => intro S a W r hv; cases hv
  | succ n ih =>
    intro S a W r hv
    cases S with
    | skip => exact hv
    | exit id => exact hv
    | ret => exact hv
    | draw l => exact hv
    | quiet k ms outs =>
      simp only [pruneS, sexec] at hv ⊢
      split at hv
      · rename_i hm; rw [if_pos (prune_sound _ hm)]; exact hv
      · cases hv
    | segs l =>
      simp only [pruneS, sexec] at hv ⊢
      split at hv
      · rename_i h1; simp only [pruneN_sound _ _ _ _ h1]; exact hv
      · cases hv
    | seq x y =>
      simp only [pruneS, sexec] at hv ⊢
      split at hv
      · rename_i h1; simp only [ih _ _ _ _ h1]; exact ih _ _ _ _ hv
      · rename_i hno
        simp only [ih _ _ _ _ hv]
        obtain ⟨e, a1, W1⟩ := r
        cases e with
        | normal => exact absurd hv (hno _ _)
        | _ => rfl
    | cond o x y =>
      simp only [pruneS, sexec] at hv ⊢
      split at hv
      · exact ih _ _ _ _ hv
      · exact ih _ _ _ _ hv
      · cases hv
    | block id b =>
      simp only [pruneS, sexec] at hv ⊢
      split at hv
      · rename_i h1; simp only [ih _ _ _ _ h1]; exact hv
      · rename_i hno
        simp only [ih _ _ _ _ hv]
        obtain ⟨e, a1, W1⟩ := r
        cases e with
        | exit i => exact absurd hv (hno _ _ _)
        | _ => rfl
    | loop norm b =>
      simp only [pruneS] at hv
      rw [sexec_loop] at hv ⊢
      split at hv
      · rename_i h1; simp only [ih _ _ _ _ h1]; exact ih (.loop norm b) _ _ _ hv
      · rename_i hno
        simp only [ih _ _ _ _ hv]
        obtain ⟨e, a1, W1⟩ := r
        cases e with
        | normal => exact absurd hv (hno _ _)
        | _ => rfl

/-- A function's short code, pruned, and its results. -/
def shortP (P : Program) (f : FuncId) (L : List (List Nat)) : Option (SCode × List (Nat × Option (Option Nat))) :=
  match rfn P f with
  | some R => some (pruneS (opt R.body L).1, R.res)
  | none => none

theorem rcall_byP {P : Program} {orc : Orc} {n : Nat} {f : FuncId} {args : List Value} {W W' : CW} {S : SCode} {res : List (Nat × Option (Option Nat))} {L : List (List Nat)} (hS : shortP P f L = some (S, res)) {e : CExit} {s' : CAct} {vs : List Value}
    (ha : ask orc f args W = none) (hv : sexec P (rcall P orc n) (n + 1) S (params 0 args .nil) W = some (e, s', W')) (he : ∀ i, e ≠ .exit i) (hr : resultsL s' W' res = some vs) : rcall P orc (n + 1) f args W = some (resultOf vs, W') := by
  unfold shortP at hS
  split at hS
  · rename_i R hR; cases hS
    exact rcall_short ha hR rfl (pruneS_sound _ _ _ _ _ hv) he hr
  · cases hS

end Go.Can
