/-
  Canonical code made short: a law's arguments, opened.
-/
import Derived.Test.YtcilkncmhmckmaaGreatCanZB
namespace Go.Can
open Go Go.RowKit Go.ChangeShapes Go.WideShapes Go.ChangeAt
set_option linter.all false

def chunks (sz : Nat) : Nat → List Value → List (List Value)
  | 0, _ => []
  | n + 1, X => X.take sz :: chunks sz n (X.drop sz)

theorem chunks_length (sz : Nat) : ∀ (n : Nat) (X : List Value), (chunks sz n X).length = n
  | 0, _ => rfl
  | n + 1, X => by simp [chunks, chunks_length sz n]

theorem chunks_flatten (sz : Nat) : ∀ (n : Nat) (X : List Value), X.length = n * sz → (chunks sz n X).flatten = X
  | 0, X, h => by
    have : X = [] := List.length_eq_zero_iff.1 (by simpa using h)
    simp [chunks, this]
  | n + 1, X, h => by
    simp only [chunks, List.flatten_cons]
    rw [chunks_flatten sz n (X.drop sz) (by rw [List.length_drop, h, Nat.add_mul]; omega), List.take_append_drop]

theorem chunks_get (sz : Nat) : ∀ (n : Nat) (X : List Value) (i : Nat), i < n → (chunks sz n X)[i]? = some ((X.drop (i * sz)).take sz)
  | 0, X, i, h => by omega
  | n + 1, X, 0, h => by simp [chunks]
  | n + 1, X, i + 1, h => by
    simp only [chunks, List.getElem?_cons_succ]
    rw [chunks_get sz n (X.drop sz) i (by omega), List.drop_drop, show sz + i * sz = (i + 1) * sz by rw [Nat.add_mul]; omega]

theorem matchN_rows {ks : List (Option IntKind)} {n : Nat} {X : List Value} (h : MatchN ks n X) : ∃ rows : List (List Value), rows.length = n ∧ rows.flatten = X ∧ ∀ r ∈ rows, MatchK ks r := by
  refine ⟨chunks ks.length n X, chunks_length _ _ _, chunks_flatten _ _ _ h.1, fun r hr => ?_⟩
  obtain ⟨i, hi, rfl⟩ := List.getElem_of_mem hr
  rw [chunks_length] at hi
  have e := chunks_get ks.length n X i hi
  rw [List.getElem?_eq_getElem (by rw [chunks_length]; exact hi)] at e
  rw [Option.some.injEq] at e
  rw [e]
  exact h.2 i hi

section
variable {H : Type} {enc : TypeId × Value → H} {P : Program} {w : World} {base : Nat} {sp : Nat → Bool} {held : Bool}

/-- An argument that is a slice of plain elements. -/
theorem arg_rows {r : Reach} {b0 : Nat} {t e : TypeId} {d : Nat} {ks : List (Option IntKind)} (ht : P.underlying t = some (.slice e)) (hk : kindsF P d e = some ks) (hc : ks.length = P.cellsOf e) (h0 : 0 < ks.length) {v : Value} {dd : DataW H} {ps : List MemPlace}
    (hval : Value.okWide P w r b0 t v) (hd : DataW.Trod enc P w base sp held t v dd ps) :
    ∃ (s : Option Src) (rows : List (List Value)) (c : Nat → Value), (∀ r ∈ rows, MatchK ks r) ∧ (∀ s', s = some s' → SrcOk w s') ∧
      ∀ (l : List (Option Src)) (b : Nat), l[b]? = some s → VR (srcR l) (c b) v ∧ SlR (srcW l) ks.length (c b) rows := by
  rcases slice_open ht hk hc h0 hval hd with rfl | ⟨a, len, cap, X, rfl, hle, hcap, hX, hcell⟩
  · refine ⟨none, [], fun _ => .slice none 0 0, by simp, fun s' h => (by cases h), fun l b hb => ⟨.nils, .inl ⟨rfl, rfl, rfl⟩, by simp⟩⟩
  · obtain ⟨s, h1, h2, h3⟩ := slice_src h0 hX hcell hle
    obtain ⟨rows, r1, r2, r3⟩ := matchN_rows hX
    refine ⟨s, rows, fun b => .slice (some ⟨b, 0, none⟩) len len, r3, fun s' hs => (h1 s' hs).1, fun l b hb => ⟨h3 l b hb, ?_, fun r hr => ((r3 r hr).length).symm⟩⟩
    refine .inr ⟨b, 0, none, len, by rw [r1], by rw [r1]; exact Nat.le_refl _, (List.getElem?_eq_some_iff.1 hb).1, ?_⟩
    cases hs : s with
    | none =>
      left
      have : len = 0 := by
        rcases Nat.eq_zero_or_pos len with h | h
        · exact h
        · exact absurd hs (h2 h)
      subst this
      rw [r2]
      exact List.length_eq_zero_iff.1 (by simpa using hX.1)
    | some s' =>
      right
      obtain ⟨_, hcs⟩ := h1 s' hs
      refine ⟨s'.cs, false, by rw [srcW_get, hb, hs]; rfl, ?_⟩
      rw [r2, hcs]
      exact cut_all X

theorem matchK_int {k : IntKind} {r : List Value} (h : MatchK [some k] r) : ∃ n, r = [.int k n] ∧ (Lit.int k n).wf = true := by
  match r, h with
  | [v], ⟨h1, _⟩ => cases h1; exact ⟨_, rfl, by assumption⟩
  | [], h => exact h.elim
  | _ :: _ :: _, ⟨_, h⟩ => exact h.elim

theorem matchK_cons {k : Option IntKind} {ks : List (Option IntKind)} {r : List Value} (h : MatchK (k :: ks) r) : ∃ v r', r = v :: r' ∧ OkK k v ∧ MatchK ks r' := by
  cases r with
  | nil => exact h.elim
  | cons v r => exact ⟨v, r, rfl, h.1, h.2⟩
theorem matchK_nil {r : List Value} (h : MatchK [] r) : r = [] := by
  cases r with
  | nil => rfl
  | cons v r => exact h.elim
theorem okK_int {k : IntKind} {v : Value} (h : OkK (some k) v) : ∃ n, v = .int k n ∧ (Lit.int k n).wf = true := by
  cases h; exact ⟨_, rfl, by assumption⟩

theorem rows_ints {k : IntKind} : ∀ {rows : List (List Value)}, (∀ r ∈ rows, MatchK [some k] r) → ∃ xs : List Int, rows = xs.map (fun x => [.int k x]) ∧ ∀ x ∈ xs, (Lit.int k x).wf = true
  | [], _ => ⟨[], rfl, by simp⟩
  | r :: rows, h => by
    obtain ⟨n, hn, hw⟩ := matchK_int (h r (by simp))
    obtain ⟨xs, h1, h2⟩ := rows_ints (rows := rows) fun x hx => h x (by simp [hx])
    exact ⟨n :: xs, by simp [hn, h1], by simp; exact ⟨hw, h2⟩⟩

theorem slR_ints {W : CW} {k : IntKind} {v : Value} {xs : List Int} (h : SlR W 1 v (xs.map (fun x => [.int k x]))) : SlI W k v xs := by
  have h1 := h.1
  have e : (xs.map (fun x => [Value.int k x])).flatten = xs.map (.int k) := by
    clear h h1
    induction xs with
    | nil => rfl
    | cons x xs ih => simp [ih]
  rw [e, List.length_map] at h1
  exact h1

/-- An argument that is a slice of integers. -/
theorem arg_ints {r : Reach} {b0 : Nat} {t e : TypeId} {k : IntKind} (ht : P.underlying t = some (.slice e)) (hk : kindsF P 1 e = some [some k]) (hc : 1 = P.cellsOf e) {v : Value} {dd : DataW H} {ps : List MemPlace}
    (hval : Value.okWide P w r b0 t v) (hd : DataW.Trod enc P w base sp held t v dd ps) :
    ∃ (s : Option Src) (xs : List Int) (c : Nat → Value), (∀ x ∈ xs, (Lit.int k x).wf = true) ∧ (∀ s', s = some s' → SrcOk w s') ∧
      ∀ (l : List (Option Src)) (b : Nat), l[b]? = some s → VR (srcR l) (c b) v ∧ SlI (srcW l) k (c b) xs := by
  obtain ⟨s, rows, c, h1, h2, h3⟩ := arg_rows ht hk hc (by simp) hval hd
  obtain ⟨xs, rfl, hw⟩ := rows_ints h1
  exact ⟨s, xs, c, hw, h2, fun l b hb => ⟨(h3 l b hb).1, slR_ints (h3 l b hb).2⟩⟩
end

/-- Are all elements of slices of some size? -/
def slicesSized (P : Program) : Bool := (List.range P.types.size).all fun t => match P.underlying t with | some (.slice e) => decide (0 < P.cellsOf e) | _ => true

theorem slicesSized_of {P : Program} (h : slicesSized P = true) : ∀ t e, t < P.types.size → P.underlying t = some (.slice e) → 0 < P.cellsOf e := by
  intro t e ht hu
  have := List.all_eq_true.1 h t (List.mem_range.2 ht)
  rw [hu] at this
  simpa using this

/-- A law that a canonical run tells. -/
theorem law_calls {P : Program} (hm : P.follows .mixedOrders = true) {orc : Orc} (horc : OrcOk P orc) {f : FuncId} {cargs : List Value} {l : List (Option Src)} {w : World} {args : Array Value} (hrun : WpC P orc f cargs (srcW l) fun v _ => v = .bool true)
    (hs : ∀ s, some s ∈ l → SrcOk w s) (hv : VRL (srcR l) cargs args.toList) : Calls P f args w fun e w' => e = .returned (.bool true) ∧ Held w w' := by
  obtain ⟨n, v, W', h1, rfl⟩ := hrun
  obtain ⟨h2, h3⟩ := src_sim hs
  exact calls_held hm horc h1 h2 hv h3

/-- What is told of functions: the witness, and one that sorts. -/
def orcOf (f : FuncId) (s : Option FuncId) : Orc := fun g => if g = f then some (.word true) else if some g = s then some .sort else none

theorem word_of {P : Program} (hm : P.follows .mixedOrders = true) {f : FuncId} (h : WpC P noOrc f [] .empty fun v _ => v = .bool true) : (∃ R, rfn P f = some R) ∧ ∀ w, Calls P f #[] w fun e w' => e = .returned (.bool true) ∧ Held w w' := by
  obtain ⟨n, v, W', h1, rfl⟩ := h
  exact orc_word hm (noOrc_ok P) (n := n) (by rw [h1]; rfl)

theorem orcOf_ok {P : Program} (hm : P.follows .mixedOrders = true) {f : FuncId} (h : WpC P noOrc f [] .empty fun v _ => v = .bool true) {s : Option FuncId} (hs : ∀ g, s = some g → (∃ R, rfn P g = some R) ∧ SortOk P g) : OrcOk P (orcOf f s) := by
  intro g k hk
  unfold orcOf at hk
  split at hk
  · rename_i e; cases hk; subst e
    exact word_of hm h
  · split at hk
    · rename_i e; cases hk
      exact hs g e.symm
    · cases hk

end Go.Can
