/-
  Accesses, as the statements of the layer access have them.
-/
import Derived.Test.YtcilkncmhmckmaaGreatCanZL
namespace Go.Can
open Go
set_option linter.all false

structure Acc where
  tick : Int
  thread : Int
  kind : Int
  at_ : Int
  old : Int
  now : Int

def Acc.enc (a : Acc) : List Value := [.int .i64 a.tick, .int .i64 a.thread, .int .i64 a.kind, .int .i64 a.at_, .int .u64 a.old, .int .u64 a.now]

def Acc.wrote (x : Acc) (at_ : Int) : Bool := decide (x.at_ = at_) && (decide (x.kind = 1) || !decide (x.now = x.old))

def keepA (th at_ : Int) (x : Acc) : Bool := (decide (th < 0) || decide (x.thread = th)) && (decide (at_ < 0) || decide (x.at_ = at_))

def ofL (th at_ : Int) : List Acc → Int → List Int
  | [], _ => []
  | x :: r, i => if keepA th at_ x then i :: ofL th at_ r (i + 1) else ofL th at_ r (i + 1)

theorem ofL_length (th at_ : Int) : ∀ (l : List Acc) (i : Int), (ofL th at_ l i).length ≤ l.length
  | [], _ => by simp [ofL]
  | x :: r, i => by
    simp only [ofL]
    have := ofL_length th at_ r (i + 1)
    split <;> simp <;> omega

/-! Sorting. -/
def srt (l : List Int) : List Int := l.mergeSort fun x y => decide (x ≤ y)

theorem intsOf_map : ∀ (l : List Int), intsOf (l.map (.int .i64)) = some l
  | [] => rfl
  | x :: l => by simp [intsOf, intsOf_map l]

theorem sort_wp {P : Program} {orc : Orc} {f : FuncId} {B : Nat} {W : CW} {v : Value} {xs : List Int} (ho : orc f = some .sort) (hv : AppI B W .i64 v xs) (hl : xs.length ≤ 2 ^ 40) :
    WpC P orc f [v] W fun _ W' => Low B W W' ∧ AppI B W' .i64 v (srt xs) := by
  have hsl : (srt xs).length = xs.length := by simp [srt]
  rcases hv with ⟨rfl, rfl⟩ | ⟨b, rfl, h1, h2, h3⟩
  · exact ⟨1, .tuple #[], W, by simp [rcall, ask, ho, sortV, sortR], ⟨Nat.le_refl _, fun _ _ => rfl⟩, .inl ⟨rfl, by simp [srt]⟩⟩
  · by_cases h0 : xs.length = 0
    · have : xs = [] := List.length_eq_zero_iff.1 h0
      subst this
      exact ⟨1, .tuple #[], W, by simp [rcall, ask, ho, sortV, sortR], ⟨Nat.le_refl _, fun _ _ => rfl⟩, by
        have : srt [] = [] := by simp [srt]
        rw [this]; exact .inr ⟨b, rfl, h1, h2, h3⟩⟩
    · have hc : cut 0 xs.length (xs.map (Value.int .i64)) = some (xs.map (Value.int .i64)) := by
        have := cut_all (xs.map (Value.int .i64)); rwa [List.length_map] at this
      have hp : puts (xs.map (Value.int .i64)) 0 ((xs.mergeSort fun x y => decide (x ≤ y)).map (.int .i64)) = some ((srt xs).map (.int .i64)) := puts_full (by simp)
      refine ⟨1, .tuple #[], W.putR b ((srt xs).map (.int .i64)) 0 xs.length, ?_, ⟨Nat.le_refl _, fun c hc => by rw [CW.get_putR, if_neg (by omega)]⟩, .inr ⟨b, by rw [hsl], h1, h2, by rw [CW.get_putR, if_pos rfl]⟩⟩
      have hne : xs ≠ [] := fun h => h0 (by rw [h]; rfl)
      simp only [rcall, ask, ho, sortV, if_neg h0, h3, hc, intsOf_map, hp, sortR, if_pos hl]

/-! What is left when neighbours that are alike are one. -/
def ddN (xs : List Int) : Nat → List Int
  | 0 => []
  | n + 1 => if 0 < n ∧ xs[n]? = xs[n - 1]? then ddN xs n else ddN xs n ++ (xs[n]?).toList

theorem ddN_le (xs : List Int) : ∀ (n : Nat), (ddN xs n).length ≤ n
  | 0 => by simp [ddN]
  | n + 1 => by
    simp only [ddN]
    have := ddN_le xs n
    split
    · omega
    · simp only [List.length_append]
      have : (xs[n]?).toList.length ≤ 1 := by cases xs[n]? <;> simp
      omega

theorem ddN_mem (xs : List Int) : ∀ (n : Nat) (x : Int), n ≤ xs.length → (x ∈ ddN xs n ↔ ∃ i, i < n ∧ xs[i]? = some x)
  | 0, x, h => by simp [ddN]
  | n + 1, x, h => by
    have ih := ddN_mem xs n x (by omega)
    simp only [ddN]
    split
    · rename_i hc
      rw [ih]
      constructor
      · rintro ⟨i, hi, hx⟩; exact ⟨i, by omega, hx⟩
      · rintro ⟨i, hi, hx⟩
        by_cases hin : i = n
        · subst hin; exact ⟨i - 1, by omega, by rw [← hc.2]; exact hx⟩
        · exact ⟨i, by omega, hx⟩
    · rw [List.mem_append, ih]
      constructor
      · rintro (⟨i, hi, hx⟩ | hx)
        · exact ⟨i, by omega, hx⟩
        · exact ⟨n, by omega, by simpa using hx⟩
      · rintro ⟨i, hi, hx⟩
        by_cases hin : i = n
        · subst hin; right; simp [hx]
        · left; exact ⟨i, by omega, hx⟩

/-- Of a list in order what is left stands in strict order. -/
theorem ddN_strict (xs : List Int) (hs : ∀ (i j : Nat) (x y : Int), i ≤ j → xs[i]? = some x → xs[j]? = some y → x ≤ y) : ∀ (n : Nat), n ≤ xs.length → (∀ (i : Nat) (x y : Int), (ddN xs n)[i]? = some x → (ddN xs n)[i + 1]? = some y → x < y) ∧ (0 < n → (ddN xs n).getLast? = xs[n - 1]?)
  | 0, _ => by simp [ddN]
  | n + 1, h => by
    obtain ⟨h1, h2⟩ := ddN_strict xs hs n (by omega)
    have hn : xs[n]? = some xs[n] := by simp
    simp only [ddN]
    split
    · rename_i hc
      refine ⟨h1, fun _ => ?_⟩
      rw [h2 hc.1, Nat.add_sub_cancel, hc.2]
    · rename_i hc
      rw [hn]
      simp only [Option.toList_some]
      refine ⟨fun i x y hx hy => ?_, fun _ => by simp [hn]⟩
      rw [List.getElem?_append] at hx hy
      by_cases hi : i + 1 < (ddN xs n).length
      · rw [if_pos (by omega)] at hx
        rw [if_pos hi] at hy
        exact h1 i x y hx hy
      · rw [if_neg hi] at hy
        have hlen : i + 1 - (ddN xs n).length = 0 := by
          by_cases hz : i + 1 - (ddN xs n).length = 0
          · exact hz
          · rw [List.getElem?_eq_none (by simp; omega)] at hy; cases hy
        rw [hlen] at hy
        simp at hy
        rw [if_pos (by omega)] at hx
        have hpos : 0 < n := by
          rcases Nat.eq_zero_or_pos n with h0 | h0
          · subst h0; simp [ddN] at hx
          · exact h0
        have hl := h2 hpos
        rw [List.getLast?_eq_getElem?, show (ddN xs n).length - 1 = i by omega, hx] at hl
        have hle := hs (n - 1) n x y (by omega) hl.symm (by rw [hn, hy])
        have hne : x ≠ y := fun e => hc ⟨hpos, by rw [hn, ← hl, hy, e]⟩
        omega

theorem srt_sorted (l : List Int) : ∀ (i j : Nat) (x y : Int), i ≤ j → (srt l)[i]? = some x → (srt l)[j]? = some y → x ≤ y := by
  have hp : (srt l).Pairwise (fun a b => decide (a ≤ b) = true) := List.pairwise_mergeSort (fun a b c h1 h2 => by simp at *; omega) (fun a b => by simp; omega) l
  intro i j x y hij hx hy
  rcases Nat.lt_or_ge i j with h | h
  · obtain ⟨hi, rfl⟩ := List.getElem?_eq_some_iff.1 hx
    obtain ⟨hj, rfl⟩ := List.getElem?_eq_some_iff.1 hy
    have := List.pairwise_iff_getElem.1 hp i j hi hj h
    simpa using this
  · have : i = j := by omega
    subst this
    rw [hx] at hy; cases hy; omega

theorem srt_mem (l : List Int) (x : Int) : x ∈ srt l ↔ x ∈ l := by simp [srt, List.mem_mergeSort]

end Go.Can
