/-
  The canonical semantics: arguments, read as rows that are only read.
-/
import Derived.Test.YtcilkncmhmckmaaGreatCanS
import Derived.ChangeArms
import Derived.DataReads
namespace Go.Can
open Go Go.RowKit Go.ChangeShapes Go.WideShapes Go.ChangeAt
set_option linter.all false

/-! Plain types: bools, integers, and structs of such. -/
def kindsL (g : TypeId → Option (List (Option IntKind))) (P : Program) : List Field → Nat → Option (List (Option IntKind))
  | [], _ => some []
  | f :: fs, o => if f.offset = o then
      match g f.type with
      | some ks => if P.cellsOf f.type = ks.length then
          match kindsL g P fs (o + ks.length) with
          | some r => some (ks ++ r)
          | none => none
        else none
      | none => none
    else none

def kindsF (P : Program) : Nat → TypeId → Option (List (Option IntKind))
  | 0, _ => none
  | d + 1, t => match P.underlying t with
    | some .bool => some [none]
    | some (.int k) => some [some k]
    | some (.struct fs) => kindsL (kindsF P d) P fs.toList 0
    | _ => none

inductive OkK : Option IntKind → Value → Prop where
  | bool (b : Bool) : OkK none (.bool b)
  | int (k : IntKind) (n : Int) (h : (Lit.int k n).wf = true) : OkK (some k) (.int k n)

theorem OkK.vr {k : Option IntKind} {v : Value} (h : OkK k v) (r : Rn) : VR r v v := by cases h <;> constructor

/-- Cells that are as their kinds tell. -/
def MatchK : List (Option IntKind) → List Value → Prop
  | [], [] => True
  | k :: ks, v :: vs => OkK k v ∧ MatchK ks vs
  | _, _ => False

theorem MatchK.length : ∀ {ks : List (Option IntKind)} {vs : List Value}, MatchK ks vs → ks.length = vs.length
  | [], [], _ => rfl
  | _ :: _, _ :: _, h => by simp [MatchK.length h.2]
  | [], _ :: _, h => h.elim
  | _ :: _, [], h => h.elim

theorem MatchK.append : ∀ {ks : List (Option IntKind)} {vs : List Value} {ks' : List (Option IntKind)} {vs' : List Value}, MatchK ks vs → MatchK ks' vs' → MatchK (ks ++ ks') (vs ++ vs')
  | [], [], _, _, _, h' => h'
  | _ :: _, _ :: _, _, _, h, h' => ⟨h.1, MatchK.append h.2 h'⟩
  | [], _ :: _, _, _, h, _ => h.elim
  | _ :: _, [], _, _, h, _ => h.elim

theorem MatchK.vr : ∀ {ks : List (Option IntKind)} {vs : List Value}, MatchK ks vs → ∀ (r : Rn) (i : Nat) (v : Value), vs[i]? = some v → VR r v v
  | [], [], _, r, i, v, h => by simp at h
  | k :: ks, u :: vs, hm, r, i, v, h => by
    cases i with
    | zero => simp at h; subst h; exact hm.1.vr r
    | succ i => exact MatchK.vr hm.2 r i v (by simpa using h)
  | [], _ :: _, h, _, _, _, _ => h.elim
  | _ :: _, [], h, _, _, _, _ => h.elim

section
variable {H : Type} {enc : TypeId × Value → H} {P : Program} {w : World} {base : Nat} {sp : Nat → Bool} {held : Bool}

theorem kindsL_match {g : TypeId → Option (List (Option IntKind))} {cs : List Value} {n : Nat} (hg : ∀ t ks, g t = some ks → ∀ cs x, DataW.trod enc P w base sp held n t cs = some x → MatchK ks cs) :
    ∀ (fs : List Field) (o : Nat) (ks : List (Option IntKind)), kindsL g P fs o = some ks → (∀ f ∈ fs, ∃ x, DataW.trod enc P w base sp held n f.type ((cs.drop f.offset).take (P.cellsOf f.type)) = some x) → MatchK ks ((cs.drop o).take ks.length)
  | [], o, ks, h, _ => by
    simp only [kindsL, Option.some.injEq] at h; subst h
    simp [MatchK]
  | f :: fs, o, ks, h, hx => by
    simp only [kindsL] at h
    split at h
    · rename_i ho
      split at h
      · rename_i k1 hk1
        split at h
        · rename_i hc
          split at h
          · rename_i r hr; cases h
            obtain ⟨x, h1⟩ := hx f (by simp)
            have m1 := hg _ _ hk1 _ _ h1
            rw [ho, hc] at m1
            have m2 := kindsL_match hg fs _ _ hr fun f hf => hx f (by simp [hf])
            have := m1.append m2
            have e : (cs.drop o).take (k1 ++ r).length = (cs.drop o).take k1.length ++ (cs.drop (o + k1.length)).take r.length := by
              rw [List.length_append, List.take_add, List.drop_drop]
            rw [e]
            exact this
          · cases h
        · cases h
      · cases h
    · cases h

theorem trod_kinds : ∀ (d : Nat) (t : TypeId) (ks : List (Option IntKind)), kindsF P d t = some ks → ∀ (n : Nat) (cs : List Value) (x : DataW H × List MemPlace), ks.length = P.cellsOf t →
    DataW.trod enc P w base sp held n t cs = some x → MatchK ks cs := by
  intro d
  induction d with
  | zero => intro t ks h; cases h
  | succ d ih =>
    intro t ks h n cs x hlen hx
    simp only [kindsF] at h
    split at h
    · rename_i ht; cases h
      obtain ⟨b, rfl, _⟩ := DataW.trod_bool ht hx
      exact ⟨.bool b, trivial⟩
    · rename_i k ht; cases h
      obtain ⟨m, rfl, _, hw⟩ := DataW.trod_int ht hx
      exact ⟨.int k m hw, trivial⟩
    · rename_i fs ht
      obtain ⟨xs, n', rfl, _, hl, h2, h3⟩ := DataW.trod_struct ht hx
      have hg : ∀ t ks, (fun t => match kindsF P d t with | some ks => if P.cellsOf t = ks.length then some ks else none | none => none) t = some ks → ∀ cs x, DataW.trod enc P w base sp held n' t cs = some x → MatchK ks cs := by
        intro t ks h cs x hx
        simp only at h
        split at h
        · rename_i ks' hk
          split at h
          · rename_i hc; cases h
            exact ih t ks hk n' cs x hc.symm hx
          · cases h
        · cases h
      have key : ∀ (fs : List Field) (o : Nat) (ks : List (Option IntKind)), kindsL (kindsF P d) P fs o = some ks →
          kindsL (fun t => match kindsF P d t with | some ks => if P.cellsOf t = ks.length then some ks else none | none => none) P fs o = some ks := by
        intro fs
        induction fs with
        | nil => intro o ks h; exact h
        | cons f fs ihf =>
          intro o ks h
          simp only [kindsL] at h ⊢
          split at h
          · rename_i ho
            rw [if_pos ho]
            split at h
            · rename_i k1 hk1
              split at h
              · rename_i hc
                split at h
                · rename_i r hr; cases h
                  simp only [hk1, if_pos hc, ihf _ _ hr]
                · cases h
              · cases h
            · cases h
          · cases h
      have := kindsL_match hg fs.toList 0 ks (key _ _ _ h) fun f hf => by
        obtain ⟨i, hi, rfl⟩ := List.getElem_of_mem hf
        have hi' : i < fs.size := by simpa using hi
        have h4 := h3 i fs[i] (by simp [hi'])
        have : i < xs.length := by omega
        exact ⟨xs[i], by simpa [this] using h4⟩
      rw [List.drop_zero, List.take_of_length_le (by omega)] at this
      exact this
    · cases h

theorem add_add (a : Addr) (i j : Nat) : (a.add i).add j = a.add (i + j) := by
  unfold Addr.add
  by_cases hi : i = 0
  · subst hi; simp
  · by_cases hj : j = 0
    · subst hj; simp
    · have : ¬ (i + j = 0) := by omega
      simp [hi, hj, this, Nat.add_assoc]

/-- Rows of cells, element by element. -/
def MatchN (ks : List (Option IntKind)) (n : Nat) (X : List Value) : Prop := X.length = n * ks.length ∧ ∀ i, i < n → MatchK ks ((X.drop (i * ks.length)).take ks.length)

theorem MatchN.vr {ks : List (Option IntKind)} {n : Nat} {X : List Value} (h : MatchN ks n X) (hk : 0 < ks.length) (r : Rn) (j : Nat) (v : Value) (hj : X[j]? = some v) : VR r v v := by
  have hlt : j < X.length := (List.getElem?_eq_some_iff.1 hj).1
  have hi : j / ks.length < n := by rw [Nat.div_lt_iff_lt_mul hk]; rw [← h.1]; exact hlt
  refine (h.2 _ hi).vr r (j % ks.length) v ?_
  rw [List.getElem?_take, if_pos (Nat.mod_lt _ hk), List.getElem?_drop]
  rw [show j / ks.length * ks.length + j % ks.length = j by rw [Nat.mul_comm]; exact Nat.div_add_mod j ks.length]
  exact hj

/-- A slice of plain elements, opened. -/
theorem slice_open {r : Reach} {b0 : Nat} {t e : TypeId} {d : Nat} {ks : List (Option IntKind)} (ht : P.underlying t = some (.slice e)) (hk : kindsF P d e = some ks) (hc : ks.length = P.cellsOf e) (h0 : 0 < ks.length) {v : Value} {dd : DataW H} {ps : List MemPlace}
    (hval : Value.okWide P w r b0 t v) (hd : DataW.Trod enc P w base sp held t v dd ps) :
    v = .slice none 0 0 ∨ ∃ (a : Addr) (len cap : Nat) (X : List Value), v = .slice (some a) len cap ∧ len ≤ cap ∧ cap ≤ maxLen ∧ MatchN ks len X ∧ ∀ j, j < X.length → w.cell? (a.add j) = X[j]? := by
  obtain ⟨n, hn⟩ := hd
  have hform : ∀ q l c, v.cells.toList = [.slice q l c] → v = .slice q l c := by
    intro q l c h
    cases v with
    | agg cs => simp [Value.okWide, Cell.okWide, Cell.ok, ht] at hval
    | slice a' l' c' => simp [Value.cells] at h; simp [h]
    | _ => simp [Value.cells] at h
  rcases DataW.trod_slice ht hn with ⟨h1, _⟩ | ⟨a, len, cap, elems, rest, n', rfl, h1, _, h2, h3, h4, h5, h6, _⟩
  · exact .inl (hform _ _ _ h1)
  · right
    have hel : ∀ i, i < len → ∃ l, w.cells? base (a.add (i * ks.length)) ks.length = some l ∧ MatchK ks l ∧ ∀ j, j < ks.length → w.cell? ((a.add (i * ks.length)).add j) = l[j]? := by
      intro i hi
      have h7 := h6 i hi
      have hlt : i < elems.length := by omega
      rw [List.getElem?_eq_getElem hlt, Option.bind_eq_some_iff] at h7
      obtain ⟨l, g1, g2⟩ := h7
      rw [← hc] at g1
      exact ⟨l, g1, trod_kinds d e ks hk n' l _ hc g2, (World.cells?_some g1).2.2⟩
    -- the cells, one behind the other
    have hX : ∀ m, m ≤ len → ∃ X, MatchN ks m X ∧ ∀ j, j < X.length → w.cell? (a.add j) = X[j]? := by
      intro m
      induction m with
      | zero => intro _; exact ⟨[], ⟨by simp, fun i hi => by omega⟩, fun j hj => by simp at hj⟩
      | succ m ih =>
        intro hm
        obtain ⟨X, ⟨x1, x2⟩, x3⟩ := ih (by omega)
        obtain ⟨l, g1, g2, g3⟩ := hel m (by omega)
        have hll := g2.length
        refine ⟨X ++ l, ⟨by rw [List.length_append, x1, ← hll, Nat.add_mul, Nat.one_mul], fun i hi => ?_⟩, fun j hj => ?_⟩
        · rcases Nat.lt_or_ge i m with h7 | h7
          · have h8 : (i + 1) * ks.length ≤ m * ks.length := Nat.mul_le_mul_right _ h7
            have h9 : i * ks.length + ks.length = (i + 1) * ks.length := by rw [Nat.add_mul, Nat.one_mul]
            rw [List.drop_append_of_le_length (by omega), List.take_append_of_le_length (by simp; omega)]
            exact x2 i h7
          · have : i = m := by omega
            subst this
            rw [List.drop_append, List.drop_of_length_le (by omega), x1, Nat.sub_self]
            simp only [List.nil_append, List.drop_zero]
            rw [List.take_of_length_le (by omega)]
            exact g2
        · rw [List.length_append] at hj
          rcases Nat.lt_or_ge j X.length with h7 | h7
          · rw [List.getElem?_append_left h7]; exact x3 j h7
          · rw [List.getElem?_append_right h7]
            have h8 := g3 (j - X.length) (by omega)
            rw [x1] at h8 ⊢
            rw [← h8]
            rw [add_add]
            congr 2
            omega
    obtain ⟨X, x1, x2⟩ := hX len (Nat.le_refl _)
    exact ⟨a, len, cap, X, hform _ _ _ h1, h3, h4, x1, x2⟩

end

/-! A heap of rows that are only read. -/
structure Src where
  blk : Nat
  off : Nat
  cs : List Value

def Src.ob : Option Src → CObj
  | some s => .row s.cs false
  | none => .dead

def srcTr : Nat → List (Option Src) → Tr CObj → Tr CObj
  | _, [], t => t
  | i, s :: l, t => srcTr (i + 1) l (t.set i (Src.ob s))

theorem srcTr_get : ∀ (l : List (Option Src)) (i : Nat) (t : Tr CObj) (j : Nat), (srcTr i l t).get j = if i ≤ j ∧ j < i + l.length then (l[j - i]?).map Src.ob else t.get j
  | [], i, t, j => by simp [srcTr]; omega
  | s :: l, i, t, j => by
    rw [srcTr, srcTr_get l (i + 1) _ j, Tr.get_set]
    by_cases h : i + 1 ≤ j ∧ j < i + 1 + l.length
    · rw [if_pos h, if_pos (by simp; omega), show j - i = (j - (i + 1)) + 1 by omega]; simp
    · rw [if_neg h]
      by_cases h2 : j = i
      · subst h2; simp
      · rw [if_neg h2, if_neg (by simp; omega)]

def srcW (l : List (Option Src)) : CW := ⟨l.length, srcTr 0 l .nil, []⟩

theorem srcW_get (l : List (Option Src)) (j : Nat) : (srcW l).get j = (l[j]?).map Src.ob := by
  show (srcTr 0 l .nil).get j = _
  rw [srcTr_get]
  by_cases h : j < l.length
  · rw [if_pos (by omega)]; simp
  · rw [if_neg (by omega), List.getElem?_eq_none (by omega)]; rfl

def srcR (l : List (Option Src)) : Rn := ⟨l.length, fun b => b < l.length, fun b => match l[b]? with | some (some s) => some ⟨s.blk, s.off, 0⟩ | _ => none, fun _ h => h⟩

theorem srcR_some {l : List (Option Src)} {b : Nat} {p : Pl} (h : (srcR l).f b = some p) : ∃ s, l[b]? = some (some s) ∧ p = ⟨s.blk, s.off, 0⟩ := by
  simp only [srcR] at h
  split at h
  · rename_i s hs; cases h; exact ⟨s, hs, rfl⟩
  · cases h

/-- Do the rows stand in the model's world? -/
def SrcOk (w : World) (s : Src) : Prop := (∃ c elem fr, w.heap[s.blk]? = some (.cells c elem fr) ∧ ∀ (i : Nat) (v : Value), s.cs[i]? = some v → c[s.off + i]? = some v) ∧ ∀ (r : Rn) (i : Nat) (v : Value), s.cs[i]? = some v → VR r v v

theorem src_sim {l : List (Option Src)} {w : World} (h : ∀ s, some s ∈ l → SrcOk w s) : Sim (srcR l) (srcW l) w ∧ ∀ b p, (srcR l).f b = some p → RO (srcW l) b := by
  have hro : ∀ b p, (srcR l).f b = some p → RO (srcW l) b := by
    intro b p hp
    obtain ⟨s, hs, rfl⟩ := srcR_some hp
    exact ⟨s.cs, by rw [srcW_get, hs]; rfl⟩
  refine ⟨⟨rfl, fun b p hp => ?_, fun b ob hb hg => ?_, fun b b' p p' h1 h2 _ => .inr ⟨hro b p h1, hro b' p' h2⟩, fun b hb => ?_, fun b hb => ?_⟩, hro⟩
  · obtain ⟨s, hs, rfl⟩ := srcR_some hp
    have hlt : b < l.length := (List.getElem?_eq_some_iff.1 hs).1
    obtain ⟨⟨c, e, fr, h1, h2⟩, h3⟩ := h s (List.mem_of_getElem? hs)
    refine ⟨hlt, .row s.cs false, by rw [srcW_get, hs]; rfl, ?_⟩
    rw [h1]
    exact ⟨c, e, fr, rfl, fun i v hv => ⟨v, h2 i v hv, h3 _ i v hv⟩, fun e => by cases e⟩
  · rw [srcW_get] at hg
    have hlt : b < l.length := hb
    rw [List.getElem?_eq_getElem hlt] at hg
    cases hq : l[b] with
    | none => rw [hq] at hg; simp [Src.ob] at hg; exact .inl hg.symm
    | some s => exact .inr ⟨⟨s.blk, s.off, 0⟩, by simp [srcR, hlt, hq]⟩
  · rw [srcW_get, List.getElem?_eq_none hb]; rfl
  · have hlt : b < l.length := hb
    rw [srcW_get, List.getElem?_eq_getElem hlt]; simp

/-- What a slice's reading comes to: its row, and its canonical value at the block b. -/
theorem slice_src {w : World} {a : Addr} {len cap : Nat} {ks : List (Option IntKind)} {X : List Value} (hk : 0 < ks.length) (hx : MatchN ks len X) (hc : ∀ j, j < X.length → w.cell? (a.add j) = X[j]?) (hle : len ≤ cap) :
    ∃ s : Option Src, (∀ s', s = some s' → SrcOk w s' ∧ s'.cs = X) ∧ (0 < len → s ≠ none) ∧ ∀ (l : List (Option Src)) (b : Nat), l[b]? = some s → VR (srcR l) (.slice (some ⟨b, 0, none⟩) len len) (.slice (some a) len cap) := by
  by_cases h0 : len = 0
  · subst h0
    refine ⟨none, fun s' h => (by cases h), fun h => (by omega), fun l b hb => ?_⟩
    refine .slc _ _ _ _ _ _ _ ((List.getElem?_eq_some_iff.1 hb).1) (Nat.le_refl _) hle (fun h => by cases h) fun p hp => ?_
    obtain ⟨s, hs, _⟩ := srcR_some hp
    rw [hb] at hs; cases hs
  · have hpos : 0 < X.length := by rw [hx.1]; exact Nat.mul_pos (by omega) hk
    have hspot : a.spot = none ∧ ∃ c e fr, w.heap[a.block]? = some (.cells c e fr) := by
      have h1 := hc 0 hpos
      rw [List.getElem?_eq_getElem hpos] at h1
      have e0 : a.add 0 = a := by simp [Addr.add]
      rw [e0] at h1
      simp only [World.cell?] at h1
      split at h1
      · rename_i c e fr hw
        cases hsp : a.spot with
        | some x => simp [hsp] at h1
        | none => exact ⟨rfl, c, e, fr, hw⟩
      · cases h1
    obtain ⟨hs, c, e, fr, hw⟩ := hspot
    have hadd : ∀ j, a.add j = ⟨a.block, a.off + j, none⟩ := fun j => add_block rfl hs rfl j
    refine ⟨some ⟨a.block, a.off, X⟩, fun s' h => ?_, fun _ h => (by cases h), fun l b hb => ?_⟩
    · cases h
      refine ⟨⟨⟨c, e, fr, hw, fun i v hv => ?_⟩, fun r i v hv => hx.vr hk r i v hv⟩, rfl⟩
      have h1 := hc i (List.getElem?_eq_some_iff.1 hv).1
      rw [hadd, cell_of hw, hv] at h1
      exact h1
    · refine .slc _ _ _ _ _ _ _ ((List.getElem?_eq_some_iff.1 hb).1) (Nat.le_refl _) hle (fun h => by cases h) fun p hp => ?_
      obtain ⟨s, hs', rfl⟩ := srcR_some hp
      rw [hb] at hs'; cases hs'
      exact ⟨rfl, hs, fun _ => rfl, fun sz hsz => by cases hsz⟩

end Go.Can
