/-
  The canonical semantics: what a pure operation gives, the model's operation gives, up to places.
-/
import Derived.Test.YtcilkncmhmckmaaGreatCanB
import Derived.Laws.Tables
import Derived.Laws.Entries
import Derived.Laws.Slices
import Derived.Laws.Build
namespace Go.Can
open Go
set_option linter.all false

theorem rxo_evo {r : Rn} {N : Nat} {a : CAct} {act : Act} (h : AR r N a act) {o : Option Operand} {x : Option RX} (hx : rxo o = some x) {v : Option Value} (hv : evo a x = some v) :
    (v = none ∧ o.map act.eval = none) ∨ ∃ u, v = some u ∧ ∃ u', o.map act.eval = some u' ∧ VR r u u' := by
  cases o with
  | none => simp [rxo] at hx; subst hx; simp [evo] at hv; subst hv; exact .inl ⟨rfl, rfl⟩
  | some o =>
    simp only [rxo] at hx
    split at hx
    · rename_i y hy
      cases hx
      simp only [evo] at hv
      split at hv
      · rename_i u hu
        cases hv
        exact .inr ⟨u, rfl, _, rfl, rxc_ev h hy hu⟩
      · cases hv
    · cases hx

theorem VR.int_inv {r : Rn} {k : IntKind} {n : Int} {v' : Value} (h : VR r (.int k n) v') : v' = .int k n := by cases h; rfl
theorem VR.bool_inv {r : Rn} {b : Bool} {v' : Value} (h : VR r (.bool b) v') : v' = .bool b := by cases h; rfl
theorem VR.str_inv {r : Rn} {s : ByteArray} {v' : Value} (h : VR r (.string s) v') : v' = .string s := by cases h; rfl

/-! Parts of aggregates. -/
theorem cut_spec {off n : Nat} {cs l : List Value} (h : cut off n cs = some l) : l = (cs.drop off).take n ∧ off + n ≤ cs.length ∨ l = [] ∧ n = 0 := by
  unfold cut at h
  split at h
  · rename_i hl
    cases h
    simp at hl
    by_cases hn : n = 0
    · right; subst hn; simp
    · left; exact ⟨rfl, by omega⟩
  · cases h

theorem cut_eq {off n : Nat} {cs l : List Value} (h : cut off n cs = some l) : l = (cs.drop off).take n ∧ l.length = n := by
  unfold cut at h
  split at h
  · rename_i hl; cases h; exact ⟨rfl, hl⟩
  · cases h

theorem cut_VRL {r : Rn} {off n : Nat} {cs cs' l : List Value} (hr : VRL r cs cs') (h : cut off n cs = some l) : cut off n cs' = some ((cs'.drop off).take n) ∧ VRL r l ((cs'.drop off).take n) := by
  obtain ⟨h1, h2⟩ := cut_eq h
  have h3 : VRL r l ((cs'.drop off).take n) := h1 ▸ (hr.drop off).take n
  have h4 : ((cs'.drop off).take n).length = n := by rw [← h3.1]; exact h2
  exact ⟨by simp only [cut, h4, if_true], h3⟩

theorem extract_eq (cs : Array Value) (off n : Nat) : cs.extract off (off + n) = ((cs.toList.drop off).take n).toArray := by
  apply Array.ext'
  simp [List.drop_take]

theorem run_sizeOf {P : Program} {t : TypeId} {n : Nat} (h : sizeC P t = some n) (w : World) : (sizeOf t).run P w = .ok n w := by
  unfold sizeC at h
  split at h
  · rename_i i hi; cases h; simp [sizeOf, typeInfo, hi]
  · cases h

theorem aggK_spec {P : Program} {t : TypeId} {k : Option Nat} (h : aggK P t = some k) (w : World) :
    (∃ n, k = some n ∧ (isAgg t).run P w = .ok true w ∧ (sizeOf t).run P w = .ok n w) ∨ (k = none ∧ (isAgg t).run P w = .ok false w) := by
  unfold aggK at h
  split at h
  · rename_i i fs hi hu; cases h
    exact .inl ⟨_, rfl, by simp [isAgg, run_underlying hu], by simp [sizeOf, typeInfo, hi]⟩
  · rename_i i n e hi hu; cases h
    exact .inl ⟨_, rfl, by simp [isAgg, run_underlying hu], by simp [sizeOf, typeInfo, hi]⟩
  · rename_i i d hn1 hn2 hi hu; cases h
    refine .inr ⟨rfl, ?_⟩
    cases d <;> first | (simp [isAgg, run_underlying hu]; done) | (exfalso; first | exact hn1 _ rfl | exact hn2 _ _ rfl)
  · cases h

theorem run_part {P : Program} {r : Rn} {t : TypeId} {k : Option Nat} (hk : aggK P t = some k) {cs : List Value} {cs' : Array Value} (hr : VRL r cs cs'.toList) {off : Nat} {v : Value}
    (h : part k cs off = some v) (w : World) : ∃ v', (Go.part t cs' off).run P w = .ok v' w ∧ VR r v v' := by
  rcases aggK_spec hk w with ⟨n, rfl, h1, h2⟩ | ⟨rfl, h1⟩
  · simp only [part] at h
    split at h
    · rename_i l hl
      cases h
      obtain ⟨h3, h4⟩ := cut_VRL hr hl
      refine ⟨.agg (cs'.extract off (off + n)), by simp [Go.part, h1, h2], ?_⟩
      rw [extract_eq]
      exact VR.arr_of (by simpa using h4)
    · cases h
  · simp only [part] at h
    obtain ⟨v', h3, h4⟩ := hr.get h
    exact ⟨v', by simp [Go.part, h1, show cs'[off]? = some v' by simpa using h3], h4⟩

/-! Filling. -/
theorem foldl_set_get (off : Nat) : ∀ (vs : List Value) (j : Nat) (cs : Array Value) (i : Nat),
    ((vs.zipIdx j).foldl (fun cs (p : Value × Nat) => cs.setIfInBounds (off + p.2) p.1) cs)[i]? =
      if off + j ≤ i ∧ i < off + j + vs.length ∧ i < cs.size then vs[i - (off + j)]? else cs[i]?
  | [], j, cs, i => by simp; omega
  | v :: vs, j, cs, i => by
    simp only [List.zipIdx_cons, List.foldl_cons]
    rw [foldl_set_get off vs (j + 1)]
    simp only [Array.size_setIfInBounds, List.length_cons]
    by_cases h1 : off + (j + 1) ≤ i ∧ i < off + (j + 1) + vs.length ∧ i < cs.size
    · rw [if_pos h1, if_pos (by omega)]
      rw [show i - (off + j) = (i - (off + (j + 1))) + 1 by omega]
      simp
    · rw [if_neg h1]
      by_cases h2 : i = off + j
      · subst h2
        by_cases h3 : off + j < cs.size
        · rw [if_pos (by omega)]; simp [h3]
        · rw [if_neg (by omega)]; simp [Array.getElem?_eq_none (Nat.le_of_not_lt h3), h3]
      · rw [if_neg (by omega), Array.getElem?_setIfInBounds_ne (by omega)]

theorem puts_get {cs xs l : List Value} {off : Nat} (h : puts cs off xs = some l) (i : Nat) :
    l[i]? = if off ≤ i ∧ i < off + xs.length then xs[i - off]? else cs[i]? := by
  unfold puts at h
  split at h
  · rename_i hl
    cases h
    by_cases h1 : i < off
    · rw [if_neg (by omega), List.getElem?_append_left (by simp; omega), List.getElem?_take, if_pos h1]
    · rw [List.getElem?_append_right (by simp; omega)]
      simp only [List.length_take, Nat.min_eq_left (show off ≤ cs.length by omega)]
      by_cases h2 : i - off < xs.length
      · rw [if_pos (by omega), List.getElem?_append_left h2]
      · rw [if_neg (by omega), List.getElem?_append_right (by omega), List.getElem?_drop]
        congr 1; omega
  · cases h

theorem puts_length {cs xs l : List Value} {off : Nat} (h : puts cs off xs = some l) : l.length = cs.length ∧ off + xs.length ≤ cs.length := by
  unfold puts at h
  split at h
  · rename_i hl; cases h; simp; omega
  · cases h

theorem size_foldl_set (off : Nat) : ∀ (L : List (Value × Nat)) (cs : Array Value), (L.foldl (fun cs (p : Value × Nat) => cs.setIfInBounds (off + p.2) p.1) cs).size = cs.size
  | [], cs => rfl
  | x :: xs, cs => by simp only [List.foldl_cons]; rw [size_foldl_set off xs]; simp

theorem fill_sim {P : Program} {r : Rn} {N : Nat} {a : CAct} {act : Act} (h : AR r N a act) (place place' : Nat → Option (Nat × Nat)) (hpl : ∀ i x, place i = some x → place' i = some x) :
    ∀ (ps : List (Nat × Operand)) (qs : List (Nat × Nat × RX)) (cs : List Value) (cs' : Array Value) (l : List Value), rparts P place ps = some qs → VRL r cs cs'.toList → fill a cs qs = some l →
      ∃ l' : Array Value, Instr.fill place' cs' (ps.map fun (i, x) => (i, act.eval x)) = some l' ∧ VRL r l l'.toList
  | [], qs, cs, cs', l, hp, hr, hf => by
    simp [rparts] at hp; subst hp; simp [fill] at hf; subst hf
    exact ⟨cs', by simp [Instr.fill], hr⟩
  | (i, o) :: ps, qs, cs, cs', l, hp, hr, hf => by
    simp only [rparts] at hp
    split at hp
    · rename_i off size x xs h1 h2 h3
      cases hp
      simp only [fill] at hf
      split at hf
      · cases hf
      · rename_i v hv
        split at hf
        · rename_i hlen
          split at hf
          · rename_i cs1 hputs
            have hvr := rxc_ev h h2 hv
            have hc := hvr.cells
            obtain ⟨hlen1, hfit⟩ := puts_length hputs
            have hsz : (act.eval o).cells.size = size := by rw [← hlen, hc.1]; simp
            have hcs : cs.length = cs'.size := by simpa using hr.1
            have hl2 : (cells v).length = (act.eval o).cells.toList.length := hc.1
            obtain ⟨X, hX⟩ : ∃ X, X = (act.eval o).cells.zipIdx.foldl (fun cs (p : Value × Nat) => cs.setIfInBounds (off + p.2) p.1) cs' := ⟨_, rfl⟩
            have key : ∀ i, X[i]? = if off ≤ i ∧ i < off + (act.eval o).cells.toList.length ∧ i < cs'.size then (act.eval o).cells.toList[i - off]? else cs'[i]? := by
              intro i
              have := foldl_set_get off (act.eval o).cells.toList 0 cs' i
              simp only [Nat.add_zero] at this
              rw [← this, hX, ← Array.foldl_toList]
              simp
            have hsize : X.size = cs'.size := by rw [hX, ← Array.foldl_toList, size_foldl_set]
            have hr1 : VRL r cs1 X.toList := by
              refine ⟨by rw [show X.toList.length = X.size from by simp, hsize, hlen1, hcs], fun i x x' hx hx' => ?_⟩
              rw [Array.getElem?_toList, key] at hx'
              rw [puts_get hputs] at hx
              by_cases hi : off ≤ i ∧ i < off + (cells v).length
              · rw [if_pos hi] at hx
                rw [if_pos (by omega)] at hx'
                exact hc.2 _ _ _ hx hx'
              · rw [if_neg hi] at hx
                rw [if_neg (by omega)] at hx'
                exact hr.2 i x x' hx (by simpa using hx')
            obtain ⟨l', h5, h6⟩ := fill_sim h place place' hpl ps xs cs1 X l h3 hr1 hf
            refine ⟨l', ?_, h6⟩
            simp only [List.map_cons, Instr.fill, hpl i _ h1]
            have hno : ((act.eval o).cells.size ≠ size || off + (act.eval o).cells.size > cs'.size) = false := by
              simp [hsz]; omega
            rw [if_neg (by rw [hno]; exact Bool.false_ne_true), ← hX]
            exact h5
          · cases hf
        · cases hf
    · cases hp

/-! One pure operation after the other. -/
section
variable {P : Program} {r : Rn} {N : Nat} {a : CAct} {act : Act} (h : AR r N a act) (w : World)
include h

theorem sim_pick {c x y : Operand} {c' x' y' : RX} {v : Value} (hc : rxc c = some c') (hx : rxc x = some x') (hy : rxc y = some y')
    (hv : (match c'.ev a with | some (.bool t) => if t then x'.ev a else y'.ev a | _ => none) = some v) :
    ∃ v', ((do pure (.value (if ← asBool (act.eval c) then act.eval x else act.eval y)) : Sem Next)).run P w = .ok (.value v') w ∧ VR r v v' := by
  split at hv
  · rename_i t ht
    have hb := (rxc_ev h hc ht).bool_inv
    cases t with
    | true => exact ⟨_, by simp [hb, asBool], rxc_ev h hx (by simpa using hv)⟩
    | false => exact ⟨_, by simp [hb, asBool], rxc_ev h hy (by simpa using hv)⟩
  · cases hv

theorem sim_nchk {x : Operand} {x' : RX} {v : Value} (hx : rxc x = some x') (hv : pop P a (.nchk x') = some v) (t : TypeId) (pos : String) (d : Option Tmp) (af : Array Edge) (g : Option (Nat × Bool)) :
    ∃ v', (execOp act.eval ⟨d, .nilCheck x, t, pos, af, g⟩).run P w = .ok (.value v') w ∧ VR r v v' := by
  simp only [pop] at hv
  split at hv
  · rename_i p hp; cases hv
    have := rxc_ev h hx hp
    generalize hu : act.eval x = u at *
    cases this
    · rename_i a' hb hh
      refine ⟨_, by simp only [execOp, hu]; rfl, .ptr _ _ _ _ hb hh⟩
  · rename_i t v hp; cases hv
    have := rxc_ev h hx hp
    generalize hu : act.eval x = u at *
    cases this
    · rename_i v' hh
      refine ⟨_, by simp only [execOp, hu]; rfl, .iface _ _ _ hh⟩
  · rename_i f b c hp; cases hv
    have := rxc_ev h hx hp
    generalize hu : act.eval x = u at *
    cases this
    · refine ⟨_, by simp only [execOp, hu]; rfl, .func _ _ _ _ _ (by assumption) (by assumption) (by assumption) (by assumption)⟩
  · rename_i k n hp; cases hv
    have := (rxc_ev h hx hp).int_inv
    exact ⟨_, by simp only [execOp, this]; rfl, .int _ _⟩
  · cases hv

theorem cbin_sim {op : BinOp} {x y : Value} {v : Value} (hv : cbin op x y = some v) (t : TypeId) (o1 o2 : Operand) :
    (do eqGuard op t o1 o2 x y; Go.binOp op t x y : Sem Value).run P w = .ok v w ∧ VR r v v := by
  unfold cbin at hv
  split at hv
  · rename_i k m k' n
    have hg : eqGuard op t o1 o2 (.int k m) (.int k' n) = pure () := by cases op <;> rfl
    simp only [hg, pure_bind]
    split at hv
    · simp only [cshift] at hv
      split at hv
      · cases hv
      · rename_i hn; cases hv; exact ⟨by simp [Go.binOp, Op.shift, hn], .int _ _⟩
    · simp only [cshift] at hv
      split at hv
      · cases hv
      · rename_i hn; cases hv; exact ⟨by simp [Go.binOp, Op.shift, hn], .int _ _⟩
    · split at hv
      · rename_i hk; subst hk
        cases op <;> simp only [cint] at hv <;> (try (split at hv)) <;> (try (cases hv; done)) <;> (try cases hv) <;>
          (refine ⟨?_, by constructor⟩) <;>
          first
            | rfl
            | (simp only [Go.binOp, ne_eq, not_true_eq_false, if_false, Op.intDiv, *]; rfl)
            | (exfalso; simp_all; done)
      · cases hv
  · cases hv

theorem cun_sim {op : UnOp} {x v : Value} (hv : cun op x = some v) : (Op.unary op x).run P w = .ok v w ∧ VR r v v := by
  unfold cun at hv
  split at hv
  · cases hv; exact ⟨by simp [Op.unary, Op.intArith], .int _ _⟩
  · cases hv; exact ⟨by simp [Op.unary, Op.intBits], .int _ _⟩
  · cases hv; exact ⟨by simp [Op.unary], .bool _⟩
  · cases hv
end

/-! Comparisons. -/
theorem VRL.uncons {r : Rn} {v : Value} {l l' : List Value} (h : VRL r (v :: l) l') : ∃ v' m, l' = v' :: m ∧ VR r v v' ∧ VRL r l m := by
  cases l' with
  | nil => simp [VRL] at h
  | cons v' m =>
    exact ⟨v', m, rfl, h.2 0 v v' rfl rfl, by have := h.1; simpa using this, fun i x x' hx hx' => h.2 (i + 1) x x' (by simpa using hx) (by simpa using hx')⟩

theorem VRL.nil_inv {r : Rn} {l' : List Value} (h : VRL r [] l') : l' = [] := by cases l' with | nil => rfl | cons _ _ => simp [VRL] at h

theorem flatEq_VRL {r : Rn} : ∀ (ks : List Bool) (l m l' m' : List Value) (b : Bool), VRL r l l' → VRL r m m' → flatEq ks l m = some b → flatEq ks l' m' = some b := by
  intro ks
  induction ks with
  | nil =>
    intro l m l' m' b h1 h2 hf
    cases l with
    | cons x l => simp [flatEq] at hf
    | nil => cases m with
      | cons y m => simp [flatEq] at hf
      | nil => rw [h1.nil_inv, h2.nil_inv]; exact hf
  | cons k ks ih =>
    intro l m l' m' b h1 h2 hf
    cases l with
    | nil => cases k <;> simp [flatEq] at hf
    | cons x l => cases m with
      | nil => cases k <;> cases x <;> simp [flatEq] at hf
      | cons y m =>
        obtain ⟨x', l1, rfl, hx, hl⟩ := h1.uncons
        obtain ⟨y', m1, rfl, hy, hm⟩ := h2.uncons
        cases k <;> cases x <;> cases y <;> simp only [flatEq] at hf <;> (try (cases hf; done))
        · rename_i j p k q
          rw [hx.int_inv, hy.int_inv]
          simp only [flatEq]
          split at hf
          · rename_i e0
            rw [if_pos e0]
            split at hf
            · rename_i e; rw [if_pos e]; exact ih l m l1 m1 b hl hm hf
            · rename_i e; rw [if_neg e]; exact hf
          · cases hf
        · rename_i p q
          rw [hx.bool_inv, hy.bool_inv]
          simp only [flatEq]
          split at hf
          · rename_i e; rw [if_pos e]; exact ih l m l1 m1 b hl hm hf
          · rename_i e; rw [if_neg e]; exact hf

theorem run_scalar_eq {P : Program} {t : TypeId} {k : Bool} (ht : scalar P t = some k) (d : Nat) {x y : Value} {ks : List Bool} {l m : List Value} {b : Bool} (hf : flatEq (k :: ks) (x :: l) (y :: m) = some b) (w : World) :
    ∃ c, (Op.equalIn (d + 1) t x y).run P w = .ok c w ∧ (if c then flatEq ks l m = some b else b = false) ∧ (∀ cs : Array Value, ∀ i, cs[i]? = some x → (Go.part t cs i).run P w = .ok x w) ∧
      (∀ cs : Array Value, ∀ i, cs[i]? = some y → (Go.part t cs i).run P w = .ok y w) := by
  unfold scalar at ht
  split at ht
  · rename_i hu
    cases ht
    cases x <;> cases y <;> simp only [flatEq] at hf <;> (try (cases hf; done))
    rename_i p q
    refine ⟨p == q, by simp [Op.equalIn, run_underlying hu], ?_, fun cs i hi => by simp [Go.part, isAgg, run_underlying hu, hi], fun cs i hi => by simp [Go.part, isAgg, run_underlying hu, hi]⟩
    split at hf
    · rename_i e; simp [e, hf]
    · rename_i e; simp [e]; simpa using hf.symm
  · rename_i kk hu
    cases ht
    cases x <;> cases y <;> simp only [flatEq] at hf <;> (try (cases hf; done))
    rename_i j p k q
    split at hf
    · rename_i e0
      subst e0
      refine ⟨p == q, by simp [Op.equalIn, run_underlying hu], ?_, fun cs i hi => by simp [Go.part, isAgg, run_underlying hu, hi], fun cs i hi => by simp [Go.part, isAgg, run_underlying hu, hi]⟩
      split at hf
      · rename_i e; simp [e, hf]
      · rename_i e; simp [e]; simpa using hf.symm
    · cases hf
  · cases ht

theorem flatEq_nonempty {k : Bool} {ks : List Bool} {l m : List Value} {b : Bool} (h : flatEq (k :: ks) l m = some b) : ∃ x l1 y m1, l = x :: l1 ∧ m = y :: m1 := by
  cases l with
  | nil => cases k <;> simp [flatEq] at h
  | cons x l => cases m with
    | nil => cases k <;> cases x <;> simp [flatEq] at h
    | cons y m => exact ⟨x, l, y, m, rfl, rfl⟩

theorem drop_cons_get {l l1 : List Value} {x : Value} {i : Nat} (h : l.drop i = x :: l1) : l[i]? = some x ∧ l.drop (i + 1) = l1 := by
  constructor
  · have := congrArg (·[0]?) h; simpa [List.getElem?_drop] using this
  · have := congrArg (List.drop 1) h; simpa [List.drop_drop, Nat.add_comm] using this

def fldBody (d : Nat) (xs ys : Array Value) (f : Field) (_ : Option Bool × Unit) : Sem (ForInStep (Option Bool × Unit)) :=
  if f.name = "_" then pure (ForInStep.yield (none, ()))
  else do
    let u ← Go.part f.type xs f.offset
    let v ← Go.part f.type ys f.offset
    let c ← Op.equalIn d f.type u v
    if c = false then pure (ForInStep.done (some false, ())) else pure (ForInStep.yield (none, ()))

def arrBody (d : Nat) (t : TypeId) (s : Nat) (xs ys : Array Value) (i : Nat) (_ : Option Bool × Unit) : Sem (ForInStep (Option Bool × Unit)) := do
  let u ← Go.part t xs (i * s)
  let v ← Go.part t ys (i * s)
  let c ← Op.equalIn d t u v
  if c = false then pure (ForInStep.done (some false, ())) else pure (ForInStep.yield (none, ()))

theorem run_flat_fields {P : Program} (d : Nat) (xs ys : Array Value) (w : World) : ∀ (fs : List Field) (i : Nat) (ks : List Bool) (b : Bool), flatFields P fs i = some ks →
    flatEq ks (xs.toList.drop i) (ys.toList.drop i) = some b →
    (forIn fs (none, ()) (fldBody (d + 1) xs ys)).run P w = .ok (if b then none else some false, ()) w
  | [], i, ks, b, hf, he => by
    simp [flatFields] at hf; subst hf
    cases hx : xs.toList.drop i with
    | cons _ _ => rw [hx] at he; simp [flatEq] at he
    | nil => cases hy : ys.toList.drop i with
      | cons _ _ => rw [hx, hy] at he; simp [flatEq] at he
      | nil => rw [hx, hy] at he; simp [flatEq] at he; subst he; simp
  | f :: fs, i, ks, b, hf, he => by
    simp only [flatFields] at hf
    split at hf
    · rename_i ho
      split at hf
      · rename_i k ks' h1 h2
        cases hf
        obtain ⟨x, l1, y, m1, hx, hy⟩ := flatEq_nonempty he
        rw [hx, hy] at he
        obtain ⟨c, h3, h4, h5, h6⟩ := run_scalar_eq h1 d he w
        obtain ⟨gx, dx⟩ := drop_cons_get hx
        obtain ⟨gy, dy⟩ := drop_cons_get hy
        have p1 := h5 xs i (by simpa using gx)
        have p2 := h6 ys i (by simpa using gy)
        simp only [List.forIn_cons, fldBody, ho.2, if_false, ho.1]
        simp only [Sem.run_bind, p1, p2, h3, Result.andThen_ok]
        cases c with
        | false => simp at h4; subst h4; simp
        | true =>
          simp at h4
          simp only [Bool.true_eq_false, if_false, Sem.run_pure, Result.andThen_ok]
          exact run_flat_fields d xs ys w fs (i + 1) ks' b h2 (by rw [dx, dy]; exact h4)
      · cases hf
    · cases hf

theorem run_flat_array {P : Program} (d : Nat) (t : TypeId) (k : Bool) (hk : scalar P t = some k) (xs ys : Array Value) (w : World) : ∀ (n i : Nat) (b : Bool),
    flatEq (List.replicate n k) (xs.toList.drop i) (ys.toList.drop i) = some b →
    (forIn (List.range' i n) (none, ()) (arrBody (d + 1) t 1 xs ys)).run P w = .ok (if b then none else some false, ()) w
  | 0, i, b, he => by
    cases hx : xs.toList.drop i with
    | cons _ _ => rw [hx] at he; simp [flatEq] at he
    | nil => cases hy : ys.toList.drop i with
      | cons _ _ => rw [hx, hy] at he; simp [flatEq] at he
      | nil => rw [hx, hy] at he; simp [flatEq] at he; subst he; simp
  | n + 1, i, b, he => by
    rw [List.replicate_succ] at he
    obtain ⟨x, l1, y, m1, hx, hy⟩ := flatEq_nonempty he
    rw [hx, hy] at he
    obtain ⟨c, h3, h4, h5, h6⟩ := run_scalar_eq hk d he w
    obtain ⟨gx, dx⟩ := drop_cons_get hx
    obtain ⟨gy, dy⟩ := drop_cons_get hy
    have p1 := h5 xs i (by simpa using gx)
    have p2 := h6 ys i (by simpa using gy)
    simp only [List.range'_succ, List.forIn_cons, arrBody, Nat.mul_one]
    simp only [Sem.run_bind, p1, p2, h3, Result.andThen_ok]
    cases c with
    | false => simp at h4; subst h4; simp
    | true =>
      simp at h4
      simp only [Bool.true_eq_false, if_false, Sem.run_pure, Result.andThen_ok]
      simpa using run_flat_array d t k hk xs ys w n (i + 1) b (by rw [dx, dy]; exact h4)

theorem fldBody_eq (d : Nat) (xs ys : Array Value) : fldBody d xs ys = fun (f : Field) (_ : Option Bool × Unit) =>
    (if f.name = "_" then pure (ForInStep.yield (none, ()))
      else (do
        let u ← Go.part f.type xs f.offset
        let v ← Go.part f.type ys f.offset
        let c ← Op.equalIn d f.type u v
        (if c = false then pure (ForInStep.done (some false, ())) else pure (ForInStep.yield (none, ())))) : Sem (ForInStep (Option Bool × Unit))) := rfl

theorem arrBody_eq (d : Nat) (t : TypeId) (s : Nat) (xs ys : Array Value) : arrBody d t s xs ys = fun (i : Nat) (_ : Option Bool × Unit) =>
    ((do
        let u ← Go.part t xs (i * s)
        let v ← Go.part t ys (i * s)
        let c ← Op.equalIn d t u v
        (if c = false then pure (ForInStep.done (some false, ())) else pure (ForInStep.yield (none, ())))) : Sem (ForInStep (Option Bool × Unit))) := rfl

theorem run_struct_unfold {P : Program} (D : Nat) (t : TypeId) (fs : Array Field) (xs ys : Array Value) (w : World) (hu : P.underlying t = some (.struct fs)) (hs : ¬ P.stoodInHeld t = true)
    (r : Option Bool) (h : (forIn fs.toList (none, ()) (fldBody D xs ys)).run P w = .ok (r, ()) w) :
    (Op.equalIn (D + 1) t (.agg xs) (.agg ys)).run P w = .ok (r.getD true) w := by
  rw [Array.forIn_toList, fldBody_eq] at h
  simp [Op.equalIn, run_underlying hu, hs, h]
  cases r <;> rfl

theorem run_array_unfold {P : Program} (D : Nat) (t e : TypeId) (n s : Nat) (xs ys : Array Value) (w : World) (hu : P.underlying t = some (.array n e)) (hs : (sizeOf e).run P w = .ok s w)
    (r : Option Bool) (h : (forIn (List.range' 0 n) (none, ()) (arrBody D e s xs ys)).run P w = .ok (r, ()) w) :
    (Op.equalIn (D + 1) t (.agg xs) (.agg ys)).run P w = .ok (r.getD true) w := by
  rw [arrBody_eq] at h
  simp [Op.equalIn, run_underlying hu, hs, h]
  cases r <;> rfl

theorem run_flat_eq {P : Program} {t : TypeId} {ks : List Bool} (ht : flatT P t = some ks) (d : Nat) (xs ys : Array Value) {b : Bool} (he : flatEq ks xs.toList ys.toList = some b) (w : World) :
    (Op.equalIn (d + 2) t (.agg xs) (.agg ys)).run P w = .ok b w := by
  unfold flatT at ht
  split at ht
  · cases ht
  · split at ht
    · rename_i fs hu
      split at ht
      · cases ht
      · rename_i hs
        have h1 := run_flat_fields d xs ys w fs.toList 0 ks b ht (by simpa using he)
        rw [run_struct_unfold (d + 1) t fs xs ys w hu hs _ h1]
        cases b <;> rfl
    · rename_i n e hu
      split at ht
      · rename_i k hk hs
        cases ht
        have h1 := run_flat_array d e k hk xs ys w n 0 b (by simpa using he)
        have h3 := run_sizeOf hs w
        rw [run_array_unfold (d + 1) t e n 1 xs ys w hu h3 _ h1]
        cases b <;> rfl
      · cases ht
    · cases ht

theorem flatT_guard {P : Program} {t : TypeId} {ks : List Bool} (h : flatT P t = some ks) : P.eqGuardType P.depth t = false := by
  unfold flatT at h
  split at h
  · cases h
  · rename_i hn; simpa using hn

theorem binOp_eql (t : TypeId) {x y : Value} (hx : ∀ k n, x ≠ .int k n) (hx2 : ∀ s, x ≠ .string s) (hf : ∀ k n, x ≠ .float k n) (hc : ∀ k m n, x ≠ .complex k m n) :
    Go.binOp .eql t x y = (do pure (.bool (← Op.equal t x y))) ∧ Go.binOp .neq t x y = (do pure (.bool (!(← Op.equal t x y)))) := by
  cases x <;> first
    | exact ⟨rfl, rfl⟩
    | exact absurd rfl (hx _ _)
    | exact absurd rfl (hx2 _)
    | exact absurd rfl (hf _ _)
    | exact absurd rfl (hc _ _ _)

/-- Comparison for equality, of values that are no numbers and no strings. -/
theorem run_cmp {P : Program} {t : TypeId} {ox oy : Operand} {x y : Value} {b : Bool} (neg : Bool) (w : World)
    (hx : ∀ k n, x ≠ .int k n) (hx2 : ∀ s, x ≠ .string s) (hf : ∀ k n, x ≠ .float k n) (hc : ∀ k m n, x ≠ .complex k m n)
    (hg : ∀ op : BinOp, (eqGuard op t ox oy x y).run P w = .ok () w) (he : (Op.equalIn (9999 + 1) t x y).run P w = .ok b w) :
    (do eqGuard (if neg then .neq else .eql) t ox oy x y; Go.binOp (if neg then .neq else .eql) t x y : Sem Value).run P w = .ok (.bool (b != neg)) w := by
  have he' : (Op.equal t x y).run P w = .ok b w := he
  obtain ⟨h1, h2⟩ := binOp_eql t (y := y) hx hx2 hf hc
  cases neg with
  | false => simp [hg, h1, he']
  | true => simp [hg, h2, he']

section
variable {P : Program} {t : TypeId} (d : Nat) (w : World)
theorem eqIn_bool (h : P.underlying t = some .bool) (a b : Bool) : (Op.equalIn (d + 1) t (.bool a) (.bool b)).run P w = .ok (a == b) w := by simp [Op.equalIn, run_underlying h]
theorem eqIn_ptr1 {e : TypeId} (h : P.underlying t = some (.pointer e)) (b : Option Addr) : (Op.equalIn (d + 1) t (.pointer none) (.pointer b)).run P w = .ok b.isNone w := by simp [Op.equalIn, run_underlying h]
theorem eqIn_ptr2 {e : TypeId} (h : P.underlying t = some (.pointer e)) (b : Addr) : (Op.equalIn (d + 1) t (.pointer (some b)) (.pointer none)).run P w = .ok false w := by simp [Op.equalIn, run_underlying h]
theorem eqIn_ifc0 {m : Array (String × TypeId)} (h : P.underlying t = some (.interface m)) : (Op.equalIn (d + 1) t .nilIface .nilIface).run P w = .ok true w := by simp [Op.equalIn, run_underlying h]
theorem eqIn_ifc1 {m : Array (String × TypeId)} (h : P.underlying t = some (.interface m)) (u : TypeId) (v : Value) : (Op.equalIn (d + 1) t .nilIface (.iface u v)).run P w = .ok false w := by simp [Op.equalIn, run_underlying h]
theorem eqIn_ifc2 {m : Array (String × TypeId)} (h : P.underlying t = some (.interface m)) (u : TypeId) (v : Value) : (Op.equalIn (d + 1) t (.iface u v) .nilIface).run P w = .ok false w := by simp [Op.equalIn, run_underlying h]
theorem eqIn_slc1 {e : TypeId} (h : P.underlying t = some (.slice e)) (b : Option Addr) (n c n' c' : Nat) : (Op.equalIn (d + 1) t (.slice none n c) (.slice b n' c')).run P w = .ok b.isNone w := by simp [Op.equalIn, run_underlying h]
theorem eqIn_slc2 {e : TypeId} (h : P.underlying t = some (.slice e)) (b : Addr) (n c n' c' : Nat) : (Op.equalIn (d + 1) t (.slice (some b) n c) (.slice none n' c')).run P w = .ok false w := by simp [Op.equalIn, run_underlying h]
theorem eqIn_map1 {k e : TypeId} (h : P.underlying t = some (.map k e)) (b : Option Nat) : (Op.equalIn (d + 1) t (.map none) (.map b)).run P w = .ok b.isNone w := by simp [Op.equalIn, run_underlying h]
theorem eqIn_map2 {k e : TypeId} (h : P.underlying t = some (.map k e)) (b : Nat) : (Op.equalIn (d + 1) t (.map (some b)) (.map none)).run P w = .ok false w := by simp [Op.equalIn, run_underlying h]
theorem eqIn_fn0 {p q : Array TypeId} {v : Bool} (h : P.underlying t = some (.func p q v)) : (Op.equalIn (d + 1) t .nilFunc .nilFunc).run P w = .ok true w := by simp [Op.equalIn, run_underlying h]
theorem eqIn_fn1 {p q : Array TypeId} {v : Bool} (h : P.underlying t = some (.func p q v)) (f : Fn) (a b : Array Value) : (Op.equalIn (d + 1) t .nilFunc (.func f a b)).run P w = .ok false w := by simp [Op.equalIn, run_underlying h]
theorem eqIn_fn2 {p q : Array TypeId} {v : Bool} (h : P.underlying t = some (.func p q v)) (f : Fn) (a b : Array Value) : (Op.equalIn (d + 1) t (.func f a b) .nilFunc).run P w = .ok false w := by simp [Op.equalIn, run_underlying h]
end

theorem eqK_spec {P : Program} {t : TypeId} {ox oy : Operand} {k : EqK} (hk : eqK P t ox oy = some k) :
    match k with
    | .prim => P.underlying t = some .bool
    | .str => True
    | .ptr => ∃ e, P.underlying t = some (.pointer e)
    | .ifc => (∃ m, P.underlying t = some (.interface m)) ∧ (isConstO ox || isConstO oy) = true
    | .slc => ∃ e, P.underlying t = some (.slice e)
    | .mp => ∃ a e, P.underlying t = some (.map a e)
    | .fn => ∃ a b c, P.underlying t = some (.func a b c)
    | .flat ks => flatT P t = some ks := by
  unfold eqK at hk
  split at hk
  · rename_i h; cases hk; exact h
  · cases hk; trivial
  · rename_i h; cases hk; exact ⟨_, h⟩
  · rename_i h
    split at hk
    · rename_i h2; cases hk; exact ⟨⟨_, h⟩, h2⟩
    · cases hk
  · rename_i h; cases hk; exact ⟨_, h⟩
  · rename_i h; cases hk; exact ⟨_, _, h⟩
  · rename_i h; cases hk; exact ⟨_, _, _, h⟩
  · split at hk
    · rename_i h; cases hk; exact h
    · cases hk
  · split at hk
    · rename_i h; cases hk; exact h
    · cases hk
  · cases hk

theorem guard_const {P : Program} {t : TypeId} {ox oy : Operand} (h : (isConstO ox || isConstO oy) = true) (op : BinOp) (w : World) : (eqGuard op t ox oy .nilIface .nilIface).run P w = .ok () w := by
  cases op <;> first
    | rfl
    | (cases ox <;> cases oy <;> first | rfl | (simp [isConstO] at h; done))

theorem guard_agg {P : Program} {t : TypeId} {ox oy : Operand} {ks : List Bool} (h : flatT P t = some ks) (op : BinOp) (x y : Array Value) (w : World) : (eqGuard op t ox oy (.agg x) (.agg y)).run P w = .ok () w := by
  have hg := flatT_guard h
  cases op <;> first
    | rfl
    | simp [eqGuard, hg]

theorem eq_sim {P : Program} {r : Rn} {t : TypeId} {ox oy : Operand} {k : EqK} (hk : eqK P t ox oy = some k) {u v u' v' : Value} (hu : VR r u u') (hv : VR r v v') {b : Bool} (hb : ceq k u v = some b)
    (neg : Bool) (w : World) :
    (do eqGuard (if neg then .neq else .eql) t ox oy u' v'; Go.binOp (if neg then .neq else .eql) t u' v' : Sem Value).run P w = .ok (.bool (b != neg)) w := by
  have hs := eqK_spec hk
  unfold ceq at hb
  split at hb
  · cases hb
    rw [hu.bool_inv, hv.bool_inv]
    exact run_cmp neg w (by simp) (by simp) (by simp) (by simp) (fun op => by cases op <;> rfl) (eqIn_bool 9999 w hs _ _)
  · rename_i a c
    cases hb
    rw [hu.str_inv, hv.str_inv]
    have hg : ∀ op : BinOp, eqGuard op t ox oy (.string a) (.string c) = pure () := fun op => by cases op <;> rfl
    cases neg <;> simp [hg, Go.binOp, Op.stringOp]
  · rename_i c
    cases hb
    obtain ⟨e, he⟩ := hs
    cases hu
    cases hv
    · exact run_cmp neg w (by simp) (by simp) (by simp) (by simp) (fun op => by cases op <;> rfl) (eqIn_ptr1 9999 w he _)
    · exact run_cmp neg w (by simp) (by simp) (by simp) (by simp) (fun op => by cases op <;> rfl) (eqIn_ptr1 9999 w he _)
  · cases hb
    obtain ⟨e, he⟩ := hs
    cases hu
    cases hv
    exact run_cmp neg w (by simp) (by simp) (by simp) (by simp) (fun op => by cases op <;> rfl) (eqIn_ptr2 9999 w he _)
  · cases hb
    obtain ⟨⟨e, he⟩, hc⟩ := hs
    cases hu
    cases hv
    exact run_cmp neg w (by simp) (by simp) (by simp) (by simp) (fun op => guard_const hc op w) (eqIn_ifc0 9999 w he)
  · cases hb
    obtain ⟨⟨e, he⟩, hc⟩ := hs
    cases hu
    cases hv
    exact run_cmp neg w (by simp) (by simp) (by simp) (by simp) (fun op => by cases op <;> rfl) (eqIn_ifc1 9999 w he _ _)
  · cases hb
    obtain ⟨⟨e, he⟩, hc⟩ := hs
    cases hu
    cases hv
    exact run_cmp neg w (by simp) (by simp) (by simp) (by simp) (fun op => by cases op <;> rfl) (eqIn_ifc2 9999 w he _ _)
  · cases hb
    obtain ⟨e, he⟩ := hs
    cases hu
    cases hv
    · exact run_cmp neg w (by simp) (by simp) (by simp) (by simp) (fun op => by cases op <;> rfl) (eqIn_slc1 9999 w he _ _ _ _ _)
    · exact run_cmp neg w (by simp) (by simp) (by simp) (by simp) (fun op => by cases op <;> rfl) (eqIn_slc1 9999 w he _ _ _ _ _)
  · cases hb
    obtain ⟨e, he⟩ := hs
    cases hu
    cases hv
    exact run_cmp neg w (by simp) (by simp) (by simp) (by simp) (fun op => by cases op <;> rfl) (eqIn_slc2 9999 w he _ _ _ _ _)
  · cases hb
    obtain ⟨a, e, he⟩ := hs
    cases hu
    cases hv
    · exact run_cmp neg w (by simp) (by simp) (by simp) (by simp) (fun op => by cases op <;> rfl) (eqIn_map1 9999 w he _)
    · exact run_cmp neg w (by simp) (by simp) (by simp) (by simp) (fun op => by cases op <;> rfl) (eqIn_map1 9999 w he _)
  · cases hb
    obtain ⟨a, e, he⟩ := hs
    cases hu
    cases hv
    exact run_cmp neg w (by simp) (by simp) (by simp) (by simp) (fun op => by cases op <;> rfl) (eqIn_map2 9999 w he _)
  · cases hb
    obtain ⟨_, _, _, he⟩ := hs
    cases hu
    cases hv
    exact run_cmp neg w (by simp) (by simp) (by simp) (by simp) (fun op => by cases op <;> rfl) (eqIn_fn0 9999 w he)
  · cases hb
    obtain ⟨_, _, _, he⟩ := hs
    cases hu
    cases hv
    exact run_cmp neg w (by simp) (by simp) (by simp) (by simp) (fun op => by cases op <;> rfl) (eqIn_fn1 9999 w he _ _ _)
  · cases hb
    obtain ⟨_, _, _, he⟩ := hs
    cases hu
    cases hv
    exact run_cmp neg w (by simp) (by simp) (by simp) (by simp) (fun op => by cases op <;> rfl) (eqIn_fn2 9999 w he _ _ _)
  · cases hu with
    | agg cs cs' h1 h2 =>
      cases hv with
      | agg ds ds' h3 h4 =>
        have e := flatEq_VRL _ _ _ cs'.toList ds'.toList b ⟨by simpa using h1, fun i x x' a c => h2 i x x' (by simpa using a) (by simpa using c)⟩
          ⟨by simpa using h3, fun i x x' a c => h4 i x x' (by simpa using a) (by simpa using c)⟩ hb
        exact run_cmp neg w (by simp) (by simp) (by simp) (by simp) (fun op => guard_agg hs op _ _ w) (run_flat_eq hs 9998 _ _ e w)
  · cases hb

end Go.Can
