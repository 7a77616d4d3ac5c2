/-
  The canonical semantics: regions whose order is drawn. What the run in the text's order tells, step by step.
-/
import Derived.Test.YtcilkncmhmckmaaGreatCanM
namespace Go.Can
open Go
set_option linter.all false

/-! The order of the steps. -/
theorem testBit_foldl (pres : List Nat) (i : Nat) : ∀ (es : List Edge) (s0 : Nat),
    (es.foldl (fun s e => if Region.binds .any e then s ||| 2 ^ e.on ||| pres.getD e.on 0 else s) s0).testBit i = true ↔
    s0.testBit i = true ∨ ∃ e ∈ es, Region.binds .any e = true ∧ (i = e.on ∨ (pres.getD e.on 0).testBit i = true)
  | [], s0 => by simp
  | e :: es, s0 => by
    rw [List.foldl_cons, testBit_foldl pres i es]
    by_cases hb : Region.binds .any e = true
    · simp only [hb, if_true, Nat.testBit_or, Nat.testBit_two_pow, Bool.or_eq_true, decide_eq_true_eq, List.mem_cons, exists_eq_or_imp, true_and]
      constructor
      · rintro (((h | h) | h) | h)
        · exact .inl h
        · exact .inr (.inl (.inl h.symm))
        · exact .inr (.inl (.inr h))
        · exact .inr (.inr h)
      · rintro (h | (h | h) | h)
        · exact .inl (.inl (.inl h))
        · exact .inl (.inl (.inr h.symm))
        · exact .inl (.inr h)
        · exact .inr h
    · simp [hb]

theorem preOf_bit (pres : List Nat) (o : Oper) (i : Nat) : (preOf pres o).testBit i = true ↔ ∃ e ∈ o.after, Region.binds .any e = true ∧ (i = e.on ∨ (pres.getD e.on 0).testBit i = true) := by
  unfold preOf
  rw [testBit_foldl]
  simp

/-- Step i comes ahead of step j in every order. -/
def Pr (l : List RStep) (j i : Nat) : Prop := ∃ s, l[j]? = some s ∧ s.pre.testBit i = true

/-- All that is known of a drawn region by its text. -/
structure Drawn (P : Program) (N : Nat) (ops : Array Oper) (l : List RStep) : Prop where
  len : l.length = ops.size
  at_ : ∀ (j : Nat) (s : RStep), l[j]? = some s → ∃ o, ops[j]? = some o ∧ StepOf P N ops.toList o s
  pr : ∀ (j i : Nat) (o : Oper), ops[j]? = some o → (Pr l j i ↔ ∃ e ∈ o.after, Region.binds .any e = true ∧ (i = e.on ∨ Pr l e.on i))
  back : ∀ (j : Nat) (o : Oper), ops[j]? = some o → ∀ e ∈ o.after, Region.binds .any e = true → e.on < j
  apart : ∀ (i j : Nat) (si sj : RStep), i < j → l[i]? = some si → l[j]? = some sj → ¬ Pr l j i → apartS si sj = true

theorem drawn_of {P : Program} {N : Nat} {ops : Array Oper} {l : List RStep} (hreg : rregion P N ops.toList ops.toList [] = some l) (hd : drawOk ops.toList l = true) : Drawn P N ops l := by
  obtain ⟨h1, h2⟩ := rregion_spec _ _ _ hreg
  have hat : ∀ (j : Nat) (s : RStep), l[j]? = some s → ∃ o, ops[j]? = some o ∧ StepOf P N ops.toList o s ∧ s.pre = preOf ((l.take j).map (·.pre)) o := by
    intro j s hj
    have hlt : j < ops.toList.length := by rw [← h1]; exact (List.getElem?_eq_some_iff.1 hj).1
    obtain ⟨s', h3, h4, h5⟩ := h2 j ops.toList[j] (by simp [hlt])
    rw [hj] at h3; cases h3
    exact ⟨_, by simp at hlt; simp [hlt], h4, by simpa using h5⟩
  have hdr : ∀ (j : Nat) (o : Oper) (s : RStep), ops[j]? = some o → l[j]? = some s → okEdges o j = true ∧ ∀ i si, i < j → l[i]? = some si → s.pre.testBit i = true ∨ apartS si s = true := by
    intro j o s ho hs
    unfold drawOk at hd
    rw [List.all_eq_true] at hd
    have hlt : j < ops.toList.length := by simp; exact (Array.getElem?_eq_some_iff.1 ho).1
    have h3 := hd j (by simpa using hlt)
    have ho' : ops.toList[j]? = some o := by simpa using ho
    simp only [ho', hs, Bool.and_eq_true, List.all_eq_true] at h3
    refine ⟨h3.1, fun i si hi hsi => ?_⟩
    have h4 := h3.2 i (by simpa using hi)
    simpa [hsi, Bool.or_eq_true] using h4
  have hback : ∀ (j : Nat) (o : Oper), ops[j]? = some o → ∀ e ∈ o.after, Region.binds .any e = true → e.on < j := by
    intro j o ho e he hb
    have hlt : j < l.length := by rw [h1]; simp; exact (Array.getElem?_eq_some_iff.1 ho).1
    have h3 := (hdr j o l[j] ho (by simp [hlt])).1
    unfold okEdges at h3
    rw [List.all_eq_true] at h3
    have h4 := h3 e (by simpa using he)
    simpa [hb] using h4
  refine ⟨by simpa using h1, fun j s hj => ?_, fun j i o ho => ?_, hback, fun i j si sj hij hsi hsj hn => ?_⟩
  · obtain ⟨o, g1, g2, _⟩ := hat j s hj
    exact ⟨o, g1, g2⟩
  · have hlt : j < l.length := by rw [h1]; simp; exact (Array.getElem?_eq_some_iff.1 ho).1
    obtain ⟨o', g1, g2, g3⟩ := hat j l[j] (by simp [hlt])
    rw [ho] at g1; cases g1
    have e1 : Pr l j i ↔ (l[j].pre).testBit i = true := ⟨fun ⟨s, a, b⟩ => by simp [hlt] at a; subst a; exact b, fun h => ⟨l[j], by simp [hlt], h⟩⟩
    rw [e1, g3, preOf_bit]
    constructor
    · rintro ⟨e, he, hb, h | h⟩
      · exact ⟨e, he, hb, .inl h⟩
      · refine ⟨e, he, hb, .inr ?_⟩
        have hej := hback j o ho e he hb
        have hel : e.on < l.length := by omega
        rw [List.getD_eq_getElem?_getD, List.getElem?_map, List.getElem?_take, if_pos hej] at h
        simp [hel] at h
        exact ⟨l[e.on], by simp [hel], h⟩
    · rintro ⟨e, he, hb, h | ⟨s, h3, h4⟩⟩
      · exact ⟨e, he, hb, .inl h⟩
      · refine ⟨e, he, hb, .inr ?_⟩
        have hej := hback j o ho e he hb
        rw [List.getD_eq_getElem?_getD, List.getElem?_map, List.getElem?_take, if_pos hej, h3]
        simpa using h4
  · have hlt : j < l.length := (List.getElem?_eq_some_iff.1 hsj).1
    obtain ⟨o, g1, g2, g3⟩ := hat j sj hsj
    rcases (hdr j o sj g1 hsj).2 i si hij hsi with h | h
    · exact absurd ⟨sj, hsj, h⟩ hn
    · exact h

theorem Drawn.lt {P : Program} {N : Nat} {ops : Array Oper} {l : List RStep} (D : Drawn P N ops l) : ∀ (j i : Nat), Pr l j i → i < j := by
  intro j
  induction j using Nat.strongRecOn with
  | _ j ih =>
    intro i h
    obtain ⟨s, hs, _⟩ := id h
    obtain ⟨o, ho, _⟩ := D.at_ j s hs
    obtain ⟨e, he, hb, h1 | h1⟩ := (D.pr j i o ho).1 h
    · rw [h1]; exact D.back j o ho e he hb
    · have := D.back j o ho e he hb
      have := ih e.on this i h1
      omega

theorem Drawn.trans {P : Program} {N : Nat} {ops : Array Oper} {l : List RStep} (D : Drawn P N ops l) : ∀ (k j i : Nat), Pr l k j → Pr l j i → Pr l k i := by
  intro k
  induction k using Nat.strongRecOn with
  | _ k ih =>
    intro j i h h'
    obtain ⟨s, hs, _⟩ := id h
    obtain ⟨o, ho, _⟩ := D.at_ k s hs
    obtain ⟨e, he, hb, h1 | h1⟩ := (D.pr k j o ho).1 h
    · subst h1
      exact (D.pr k i o ho).2 ⟨e, he, hb, .inr h'⟩
    · exact (D.pr k i o ho).2 ⟨e, he, hb, .inr (ih e.on (D.back k o ho e he hb) j i h1 h')⟩

/-! One step, told case by case. -/
inductive DS (P : Program) (call : CCall) (base : Nat) (s : RStep) (recs : List Rec) (A : CAct) (W : CW) : Value → CW → Rec → Prop
  | skip (h : wanted A s.guard = some false) : DS P call base s recs A W undefV W .p
  | pure (o : POp) (v : Value) (h : wanted A s.guard = some true) (ho : s.op = .p o) (hv : pop P A o = some v) : DS P call base s recs A W v W .p
  | nil (o : LOp) (v : Value) (h : wanted A s.guard = some true) (ho : s.op = .l o) (hv : ltarget A o = some (.val v)) : DS P call base s recs A W v W .p
  | read (o : LOp) (b lo hi : Nat) (ob : CObj) (v : Value) (h : wanted A s.guard = some true) (ho : s.op = .l o) (ht : ltarget A o = some (.blk b)) (hg : W.get b = some ob) (hv : lval A o ob = some v)
      (hsp : lspan A o = some (lo, hi)) (hk : okL s.pre b lo hi recs 0 = true) : DS P call base s recs A W v W (.l b lo hi)
  | readM (o : LOp) (b : Nat) (ob : CObj) (v : Value) (h : wanted A s.guard = some true) (ho : s.op = .l o) (ht : ltarget A o = some (.blk b)) (hg : W.get b = some ob) (hv : lval A o ob = some v)
      (hsp : lspan A o = none) (hk : okM s.pre b recs 0 = true) : DS P call base s recs A W v W (.m b)
  | make (o : AOp) (ob : CObj) (h : wanted A s.guard = some true) (ho : s.op = .a o) (hv : aobj A o = some ob) : DS P call base s recs A W (aval A (base + recs.length) o) (W.bear (base + recs.length) ob) (.a (base + recs.length))
  | act (o : XOp) (v : Value) (W1 : CW) (h : wanted A s.guard = some true) (ho : s.op = .x o) (hv : doX P call A o ((maskL W (masks s.pre recs 0)).relog []) = some (v, W1)) (hk : okX s.pre W1.log recs 0 = true) :
      DS P call base s recs A W v ((unmaskL W W1 (masks s.pre recs 0)).relog (W1.log ++ W.log)) (.x W1.log)

theorem ds_of {P : Program} {call : CCall} {base : Nat} {s : RStep} {recs : List Rec} {A : CAct} {W W' : CW} {v : Value} {rc : Rec} (hv : dstep P call base s recs A W = some (v, W', rc)) : DS P call base s recs A W v W' rc := by
  unfold dstep at hv
  split at hv
  · cases hv
  · rename_i hw; cases hv; exact .skip hw
  · rename_i hw
    split at hv
    · rename_i o hop
      split at hv
      · rename_i v1 h1; cases hv; exact .pure o _ hw hop h1
      · cases hv
    · rename_i o hop
      split at hv
      · rename_i v1 h1; cases hv; exact .nil o _ hw hop h1
      · rename_i b hb
        split at hv
        · cases hv
        · rename_i ob hg
          split at hv
          · cases hv
          · rename_i v1 hl
            split at hv
            · rename_i lo hi hsp
              split at hv
              · rename_i hok; cases hv; exact .read o b lo hi ob _ hw hop hb hg hl hsp hok
              · cases hv
            · rename_i hsp
              split at hv
              · rename_i hok; cases hv; exact .readM o b ob _ hw hop hb hg hl hsp hok
              · cases hv
      · cases hv
    · rename_i o hop
      split at hv
      · rename_i ob h1; cases hv; exact .make o ob hw hop h1
      · cases hv
    · rename_i o hop
      split at hv
      · rename_i v1 W1 h1
        split at hv
        · rename_i hok; cases hv; exact .act o _ W1 hw hop h1 hok
        · cases hv
      · cases hv

/-! The run in the text's order. -/
def recsT (rT : Nat → Rec) (j : Nat) : List Rec := (List.range j).map rT

theorem recsT_length (rT : Nat → Rec) (j : Nat) : (recsT rT j).length = j := by simp [recsT]
theorem recsT_get (rT : Nat → Rec) {j i : Nat} (h : i < j) : (recsT rT j)[i]? = some (rT i) := by simp [recsT, h]
theorem recsT_get' {rT : Nat → Rec} {j i : Nat} {rc : Rec} (h : (recsT rT j)[i]? = some rc) : i < j ∧ rT i = rc := by
  have hlt : i < (recsT rT j).length := (List.getElem?_eq_some_iff.1 h).1
  rw [recsT_length] at hlt
  rw [recsT_get rT hlt] at h
  exact ⟨hlt, by simpa using h⟩

structure Tc (P : Program) (call : CCall) (base : Nat) (l : List RStep) (aT : Nat → CAct) (WT : Nat → CW) (vT : Nat → Value) (rT : Nat → Rec) : Prop where
  ds : ∀ (j : Nat) (s : RStep), l[j]? = some s → DS P call base s (recsT rT j) (sub (aT j) s.look) (WT j) (vT j) (WT (j + 1)) (rT j)
  fr : ∀ (j : Nat) (s : RStep), l[j]? = some s → aT (j + 1) = putd (aT j) s.dst (vT j)

theorem trace_of {P : Program} {call : CCall} {base : Nat} : ∀ (l : List RStep) (recs : List Rec) (a : CAct) (W : CW) (a' : CAct) (W' : CW), rdraw P call base l recs a W = some (a', W') →
    ∃ (aT : Nat → CAct) (WT : Nat → CW) (vT : Nat → Value) (rT : Nat → Rec), aT 0 = a ∧ WT 0 = W ∧ aT l.length = a' ∧ WT l.length = W' ∧
      (∀ (j : Nat) (s : RStep), l[j]? = some s → DS P call base s (recs ++ recsT rT j) (sub (aT j) s.look) (WT j) (vT j) (WT (j + 1)) (rT j) ∧ aT (j + 1) = putd (aT j) s.dst (vT j))
  | [], recs, a, W, a', W', h => by
    simp only [rdraw, Option.some.injEq, Prod.mk.injEq] at h
    obtain ⟨rfl, rfl⟩ := h
    exact ⟨fun _ => a, fun _ => W, fun _ => undefV, fun _ => .p, rfl, rfl, rfl, rfl, fun j s hj => by simp at hj⟩
  | s :: l, recs, a, W, a', W', h => by
    simp only [rdraw] at h
    split at h
    · rename_i v W1 rc h1
      obtain ⟨aT, WT, vT, rT, g1, g2, g3, g4, g5⟩ := trace_of l _ _ _ _ _ h
      refine ⟨fun | 0 => a | j + 1 => aT j, fun | 0 => W | j + 1 => WT j, fun | 0 => v | j + 1 => vT j, fun | 0 => rc | j + 1 => rT j, rfl, rfl, g3, g4, fun j s' hj => ?_⟩
      cases j with
      | zero =>
        simp at hj; subst hj
        refine ⟨?_, g1⟩
        simp only [recsT, List.range_zero, List.map_nil, List.append_nil]
        rw [g2]
        exact ds_of h1
      | succ j =>
        obtain ⟨k1, k2⟩ := g5 j s' (by simpa using hj)
        refine ⟨?_, k2⟩
        have : recs ++ recsT (fun | 0 => rc | j + 1 => rT j) (j + 1) = recs ++ [rc] ++ recsT rT j := by
          simp [recsT, List.range_succ_eq_map, List.map_map, Function.comp_def]
        rw [this]
        exact k1
    · cases h

theorem okL_at {pre b lo hi : Nat} : ∀ (l : List Rec) (i k : Nat), okL pre b lo hi l i = true → 
    (∀ b', l[k]? = some (.a b') → pre.testBit (i + k) = true ∨ b' ≠ b) ∧ (∀ lg, l[k]? = some (.x lg) → pre.testBit (i + k) = true ∨ clean lg b lo hi = true)
  | [], i, k, h => by simp
  | r :: l, i, k, h => by
    cases k with
    | zero =>
      cases r <;> simp only [okL, Bool.and_eq_true, Bool.or_eq_true] at h <;> simp
      · exact h.1.imp id (fun h => by simpa using h)
      · exact h.1
    | succ k =>
      have h' : okL pre b lo hi l (i + 1) = true := by cases r <;> simp only [okL, Bool.and_eq_true] at h <;> first | exact h | exact h.2
      have := okL_at l (i + 1) k h'
      rw [show i + (k + 1) = i + 1 + k by omega]
      simpa using this

theorem okM_at {pre b : Nat} : ∀ (l : List Rec) (i k : Nat), okM pre b l i = true → 
    (∀ b', l[k]? = some (.a b') → pre.testBit (i + k) = true ∨ b' ≠ b) ∧ (∀ lg, l[k]? = some (.x lg) → pre.testBit (i + k) = true ∨ cleanB lg b = true)
  | [], i, k, h => by simp
  | r :: l, i, k, h => by
    cases k with
    | zero =>
      cases r <;> simp only [okM, Bool.and_eq_true, Bool.or_eq_true] at h <;> simp
      · exact h.1.imp id (fun h => by simpa using h)
      · exact h.1
    | succ k =>
      have h' : okM pre b l (i + 1) = true := by cases r <;> simp only [okM, Bool.and_eq_true] at h <;> first | exact h | exact h.2
      have := okM_at l (i + 1) k h'
      rw [show i + (k + 1) = i + 1 + k by omega]
      simpa using this

theorem okX_at {pre : Nat} {log : List LE} : ∀ (l : List Rec) (i k : Nat), okX pre log l i = true → 
    (∀ b lo hi, l[k]? = some (.l b lo hi) → pre.testBit (i + k) = true ∨ clean log b lo hi = true) ∧ (∀ b, l[k]? = some (.m b) → pre.testBit (i + k) = true ∨ cleanB log b = true) ∧
    (∀ lg, l[k]? = some (.x lg) → pre.testBit (i + k) = true)
  | [], i, k, h => by simp
  | r :: l, i, k, h => by
    cases k with
    | zero =>
      cases r <;> simp only [okX, Bool.and_eq_true, Bool.or_eq_true] at h <;> simp
      · exact h.1
      · exact h.1
      · exact h.1
    | succ k =>
      have h' : okX pre log l (i + 1) = true := by cases r <;> simp only [okX, Bool.and_eq_true] at h <;> first | exact h | exact h.2
      have := okX_at l (i + 1) k h'
      rw [show i + (k + 1) = i + 1 + k by omega]
      simpa using this

end Go.Can
