/-
  The canonical semantics: regions whose order is drawn. How the heap stands along the run in the text's order.
-/
import Derived.Test.YtcilkncmhmckmaaGreatCanN
import Derived.Test.YtcilkncmhmckmaaGreatCanKF
namespace Go.Can
open Go
set_option linter.all false

theorem doX_quiet {P : Program} {call : CCall} (hB : CBoth call) {a : CAct} {o : XOp} {W W' : CW} {v : Value} (hv : doX P call a o W = some (v, W')) {b : Nat} (hb : b < W.next) (hd : W.get b = none ∨ W.get b = some .dead) :
    W'.get b = W.get b := by
  obtain ⟨U', g1, g2⟩ := (doX_both hB hv).mono (fun j => j < W.next ∧ (W.get j = none ∨ W.get j = some .dead)) W ⟨rfl, rfl, fun _ _ => rfl⟩ (fun j hj => hj)
  rw [hv] at g1
  cases g1
  exact g2.same b ⟨hb, hd⟩

theorem DS.inv_x {P : Program} {call : CCall} {base : Nat} {s : RStep} {recs : List Rec} {A : CAct} {W W' : CW} {v : Value} {rc : Rec} {lg : List LE} (h : DS P call base s recs A W v W' rc) (e : rc = .x lg) :
    ∃ o W1, wanted A s.guard = some true ∧ s.op = .x o ∧ doX P call A o ((maskL W (masks s.pre recs 0)).relog []) = some (v, W1) ∧ okX s.pre W1.log recs 0 = true ∧ W1.log = lg ∧
      W' = (unmaskL W W1 (masks s.pre recs 0)).relog (W1.log ++ W.log) := by
  cases h with
  | act o v W1 h1 h2 h3 h4 => cases e; exact ⟨o, W1, h1, h2, h3, h4, rfl, rfl⟩
  | _ => cases e

theorem DS.inv_a {P : Program} {call : CCall} {base : Nat} {s : RStep} {recs : List Rec} {A : CAct} {W W' : CW} {v : Value} {rc : Rec} {b : Nat} (h : DS P call base s recs A W v W' rc) (e : rc = .a b) :
    b = base + recs.length ∧ ∃ o ob, wanted A s.guard = some true ∧ s.op = .a o ∧ aobj A o = some ob ∧ v = aval A (base + recs.length) o ∧ W' = W.bear (base + recs.length) ob := by
  cases h with
  | make o ob h1 h2 h3 => cases e; exact ⟨rfl, o, ob, h1, h2, h3, rfl, rfl⟩
  | _ => cases e

theorem DS.inv_same {P : Program} {call : CCall} {base : Nat} {s : RStep} {recs : List Rec} {A : CAct} {W W' : CW} {v : Value} {rc : Rec} (h : DS P call base s recs A W v W' rc) (e1 : ∀ lg, rc ≠ .x lg) (e2 : rc ≠ .a (base + recs.length)) : W' = W := by
  cases h with
  | make o ob h1 h2 h3 => exact absurd rfl e2
  | act o v W1 h1 h2 h3 h4 => exact absurd rfl (e1 _)
  | _ => rfl

/-- A drawn region's run in the text's order, with all that is known of it. -/
structure Txt (P : Program) (call : CCall) (N : Nat) (ops : Array Oper) (base : Nat) (l : List RStep) (aT : Nat → CAct) (WT : Nat → CW) (vT : Nat → Value) (rT : Nat → Rec) : Prop where
  D : Drawn P N ops l
  T : Tc P call base l aT WT vT rT
  B : CBoth call
  C : CFresh call
  f0 : ∀ b, base ≤ b → (WT 0).get b = none
  n0 : (WT 0).next = base + l.length

def isX (rT : Nat → Rec) (t : Nat) : Prop := ∃ lg, rT t = .x lg
def isA (rT : Nat → Rec) (base t : Nat) : Prop := rT t = .a (base + t)

section
variable {P : Program} {call : CCall} {N : Nat} {ops : Array Oper} {base : Nat} {l : List RStep} {aT : Nat → CAct} {WT : Nat → CW} {vT : Nat → Value} {rT : Nat → Rec} (X : Txt P call N ops base l aT WT vT rT)
include X

theorem Txt.aNum {t b : Nat} (ht : t < l.length) (h : rT t = .a b) : b = base + t := by
  have := ((X.T.ds t l[t] (by simp [ht])).inv_a h).1
  rw [recsT_length] at this
  exact this

/-- What a step that writes comes to. -/
theorem Txt.xStep {t : Nat} (ht : t < l.length) {lg : List LE} (h : rT t = .x lg) :
    ∃ s o W1, l[t]? = some s ∧ wanted (sub (aT t) s.look) s.guard = some true ∧ s.op = .x o ∧ doX P call (sub (aT t) s.look) o ((maskL (WT t) (masks s.pre (recsT rT t) 0)).relog []) = some (vT t, W1) ∧
      okX s.pre W1.log (recsT rT t) 0 = true ∧ W1.log = lg ∧ WT (t + 1) = (unmaskL (WT t) W1 (masks s.pre (recsT rT t) 0)).relog (W1.log ++ (WT t).log) := by
  obtain ⟨o, W1, h1, h2, h3, h4, h5, h6⟩ := (X.T.ds t l[t] (by simp [ht])).inv_x h
  exact ⟨l[t], o, W1, by simp [ht], h1, h2, h3, h4, h5, h6⟩

theorem Txt.aStep {t : Nat} (ht : t < l.length) (h : isA rT base t) :
    ∃ s o ob, l[t]? = some s ∧ wanted (sub (aT t) s.look) s.guard = some true ∧ s.op = .a o ∧ aobj (sub (aT t) s.look) o = some ob ∧ vT t = aval (sub (aT t) s.look) (base + t) o ∧ WT (t + 1) = (WT t).bear (base + t) ob := by
  obtain ⟨_, o, ob, h1, h2, h3, h4, h5⟩ := (X.T.ds t l[t] (by simp [ht])).inv_a h
  rw [recsT_length] at h4 h5
  exact ⟨l[t], o, ob, by simp [ht], h1, h2, h3, h4, h5⟩

theorem Txt.same {t : Nat} (ht : t < l.length) (h1 : ¬ isX rT t) (h2 : ¬ isA rT base t) : WT (t + 1) = WT t := by
  refine (X.T.ds t l[t] (by simp [ht])).inv_same (fun lg h => h1 ⟨lg, h⟩) ?_
  rw [recsT_length]
  exact h2

theorem Txt.xx {t t' : Nat} (ht : t < l.length) (hx : isX rT t) (hx' : isX rT t') (hlt : t' < t) : Pr l t t' := by
  obtain ⟨lg, h⟩ := hx
  obtain ⟨lg', h'⟩ := hx'
  obtain ⟨s, o, W1, g1, g2, g3, g4, g5, g6, g7⟩ := X.xStep ht h
  have := (okX_at _ 0 t' g5).2.2 lg' (by rw [recsT_get rT hlt, h'])
  exact ⟨s, g1, by simpa using this⟩

theorem Txt.mask_iff {t : Nat} {s : RStep} (ht : t < l.length) (hs : l[t]? = some s) (b : Nat) : b ∈ masks s.pre (recsT rT t) 0 ↔ ∃ i, i < t ∧ isA rT base i ∧ b = base + i ∧ ¬ Pr l t i := by
  rw [masks_mem]
  constructor
  · rintro ⟨k, h1, h2⟩
    obtain ⟨g1, g2⟩ := recsT_get' h1
    have g3 := X.aNum (by omega) g2
    refine ⟨k, g1, ?_, g3, ?_⟩
    · unfold isA; rw [g2, g3]
    · rintro ⟨s', h3, h4⟩
      rw [hs] at h3; cases h3
      rw [Nat.zero_add, h4] at h2
      cases h2
  · rintro ⟨i, h1, h2, rfl, h3⟩
    refine ⟨i, by rw [recsT_get rT h1]; rw [h2], ?_⟩
    rw [Nat.zero_add]
    cases hb : s.pre.testBit i with
    | false => rfl
    | true => exact absurd ⟨s, hs, hb⟩ h3

theorem Txt.next_step {t : Nat} (ht : t < l.length) : (WT t).next ≤ (WT (t + 1)).next ∧ ∃ nl, (WT (t + 1)).log = nl ++ (WT t).log := by
  by_cases hx : isX rT t
  · obtain ⟨lg, h⟩ := hx
    obtain ⟨s, o, W1, g1, g2, g3, g4, g5, g6, g7⟩ := X.xStep ht h
    obtain ⟨nl, k1, k2, k3⟩ := (doX_both X.B g4).keeps
    rw [g7]
    exact ⟨by simpa using k2, W1.log, rfl⟩
  · by_cases ha : isA rT base t
    · obtain ⟨s, o, ob, g1, g2, g3, g4, g5, g6⟩ := X.aStep ht ha
      rw [g6]
      exact ⟨Nat.le_refl _, [], rfl⟩
    · rw [X.same ht hx ha]
      exact ⟨Nat.le_refl _, [], rfl⟩

theorem Txt.next_mono {p : Nat} : ∀ (q : Nat), p ≤ q → q ≤ l.length → (WT p).next ≤ (WT q).next ∧ ∃ nl, (WT q).log = nl ++ (WT p).log := by
  intro q
  induction q with
  | zero => intro h _; have : p = 0 := by omega
            subst this; exact ⟨Nat.le_refl _, [], rfl⟩
  | succ q ih =>
    intro h h2
    rcases Nat.lt_or_ge q p with h3 | h3
    · have : p = q + 1 := by omega
      subst this; exact ⟨Nat.le_refl _, [], rfl⟩
    · obtain ⟨g1, nl, g2⟩ := ih h3 (by omega)
      obtain ⟨g3, nl', g4⟩ := X.next_step (t := q) (by omega)
      exact ⟨Nat.le_trans g1 g3, nl' ++ nl, by rw [g4, g2, List.append_assoc]⟩

/-- Blocks that were set aside and not made yet, or never. -/
theorem Txt.unborn : ∀ (j : Nat), j ≤ l.length → ∀ i, i < l.length → (j ≤ i ∨ ¬ isA rT base i) → (WT j).get (base + i) = none := by
  intro j
  induction j with
  | zero => intro _ i _ _; exact X.f0 _ (by omega)
  | succ t ih =>
    intro hj i hi hc
    have ht : t < l.length := by omega
    have hold := ih (by omega) i hi (hc.imp (fun h => by omega) id)
    by_cases hx : isX rT t
    · obtain ⟨lg, h⟩ := hx
      obtain ⟨s, o, W1, g1, g2, g3, g4, g5, g6, g7⟩ := X.xStep ht h
      have hnm : base + i ∉ masks s.pre (recsT rT t) 0 := by
        rw [X.mask_iff ht g1]
        rintro ⟨i', h1, h2, h3, h4⟩
        have : i' = i := by omega
        subst this
        rcases hc with h5 | h5
        · omega
        · exact h5 h2
      have hnext := (X.next_mono t (Nat.zero_le _) (by omega)).1
      have hn0 := X.n0
      have hm : ((maskL (WT t) (masks s.pre (recsT rT t) 0)).relog []).get (base + i) = none := by rw [CW.get_relog, maskL_get, if_neg hnm]; exact hold
      rw [g7, CW.get_relog, unmaskL_get, if_neg hnm, doX_quiet X.B g4 (by simp; omega) (.inl hm), hm]
    · by_cases ha : isA rT base t
      · obtain ⟨s, o, ob, g1, g2, g3, g4, g5, g6⟩ := X.aStep ht ha
        have hne : i ≠ t := by
          rintro rfl
          rcases hc with h5 | h5
          · omega
          · exact h5 ha
        rw [g6, CW.get_bear, if_neg (by omega)]
        exact hold
      · rw [X.same ht hx ha]; exact hold

/-- Where nothing is called and nothing written, all stays. -/
theorem Txt.still {p : Nat} : ∀ (q : Nat), p ≤ q → q ≤ l.length → (∀ t, p ≤ t → t < q → ¬ isX rT t) →
    (WT q).next = (WT p).next ∧ (WT q).log = (WT p).log ∧ ∀ b, (∀ i, p ≤ i → i < q → b ≠ base + i) → (WT q).get b = (WT p).get b := by
  intro q
  induction q with
  | zero => intro h _ _; have : p = 0 := by omega
            subst this; exact ⟨rfl, rfl, fun _ _ => rfl⟩
  | succ q ih =>
    intro h h2 hno
    rcases Nat.lt_or_ge q p with h3 | h3
    · have : p = q + 1 := by omega
      subst this; exact ⟨rfl, rfl, fun _ _ => rfl⟩
    · obtain ⟨g1, g2, g3⟩ := ih h3 (by omega) (fun t a b => hno t a (by omega))
      have hx := hno q h3 (by omega)
      by_cases ha : isA rT base q
      · obtain ⟨s, o, ob, k1, k2, k3, k4, k5, k6⟩ := X.aStep (t := q) (by omega) ha
        rw [k6]
        refine ⟨g1, g2, fun b hb => ?_⟩
        rw [CW.get_bear, if_neg (hb q h3 (by omega))]
        exact g3 b fun i a c => hb i a (by omega)
      · rw [X.same (by omega) hx ha]
        exact ⟨g1, g2, fun b hb => g3 b fun i a c => hb i a (by omega)⟩

/-- A block that was made, up to where it is seen. -/
theorem Txt.born {i : Nat} (hi : i < l.length) (ha : isA rT base i) : ∃ ob, ∀ q, i < q → q ≤ l.length → (∀ t, i < t → t < q → isX rT t → ¬ Pr l t i) → (WT q).get (base + i) = some ob := by
  obtain ⟨s, o, ob, k1, k2, k3, k4, k5, k6⟩ := X.aStep hi ha
  refine ⟨ob, fun q => ?_⟩
  induction q with
  | zero => intro h; omega
  | succ q ih =>
    intro h hq hno
    rcases Nat.lt_or_ge i q with h3 | h3
    · have hold := ih h3 (by omega) (fun t a b => hno t a (by omega))
      by_cases hx : isX rT q
      · obtain ⟨lg, hlg⟩ := id hx
        obtain ⟨s', o', W1, g1, g2, g3, g4, g5, g6, g7⟩ := X.xStep (t := q) (by omega) hlg
        have hm : base + i ∈ masks s'.pre (recsT rT q) 0 := (X.mask_iff (by omega) g1 _).2 ⟨i, h3, ha, rfl, hno q h3 (by omega) hx⟩
        rw [g7, CW.get_relog, unmaskL_get, if_pos hm, hold]
        rfl
      · by_cases ha' : isA rT base q
        · obtain ⟨s', o', ob', j1, j2, j3, j4, j5, j6⟩ := X.aStep (t := q) (by omega) ha'
          rw [j6, CW.get_bear, if_neg (by omega)]
          exact hold
        · rw [X.same (by omega) hx ha']; exact hold
    · have : q = i := by omega
      subst this
      rw [k6, CW.get_bear, if_pos rfl]

/-- What a masked block is behind the step: what it was. -/
theorem Txt.masked_same {t : Nat} (ht : t < l.length) (hx : isX rT t) {i : Nat} (hi : i < t) (ha : isA rT base i) (hn : ¬ Pr l t i) : ∃ ob, (WT t).get (base + i) = some ob ∧ (WT (t + 1)).get (base + i) = some ob := by
  obtain ⟨ob, h⟩ := X.born (by omega) ha
  have key : ∀ t', i < t' → t' < t + 1 → isX rT t' → ¬ Pr l t' i := by
    intro t' h1 h2 h3 h4
    rcases Nat.lt_or_ge t' t with h5 | h5
    · exact hn (X.D.trans t t' i (X.xx ht hx h3 h5) h4)
    · have : t' = t := by omega
      subst this; exact hn h4
  exact ⟨ob, h t hi (by omega) (fun t' a b => key t' a (by omega)), h (t + 1) (by omega) (by omega) (fun t' a b => key t' a (by omega))⟩

/-- One step leaves cells alone that its log doesn't name. -/
theorem Txt.agree1 {t : Nat} (ht : t < l.length) {b lo hi : Nat} (hb : b < (WT t).next) (hne : b ≠ base + t) (hc : ∀ lg, rT t = .x lg → clean lg b lo hi = true) : AG ((WT t).get b) ((WT (t + 1)).get b) lo hi := by
  by_cases hx : isX rT t
  · obtain ⟨lg, hlg⟩ := id hx
    obtain ⟨s, o, W1, g1, g2, g3, g4, g5, g6, g7⟩ := X.xStep ht hlg
    by_cases hm : b ∈ masks s.pre (recsT rT t) 0
    · obtain ⟨i, h1, h2, rfl, h3⟩ := (X.mask_iff ht g1 b).1 hm
      obtain ⟨ob, h4, h5⟩ := X.masked_same ht hx h1 h2 h3
      rw [h4, h5]; exact AG.refl _ _ _
    · obtain ⟨nl, k1, k2, k3⟩ := (doX_both X.B g4).keeps
      have e1 : nl = W1.log := by simpa using k1.symm
      subst e1
      have := (k3 b (by simpa using hb)).1 lo hi (by rw [g6]; exact hc lg hlg)
      rw [CW.get_relog, maskL_get, if_neg hm] at this
      rw [g7, CW.get_relog, unmaskL_get, if_neg hm]
      exact this
  · by_cases ha : isA rT base t
    · obtain ⟨s, o, ob, k1, k2, k3, k4, k5, k6⟩ := X.aStep ht ha
      rw [k6, CW.get_bear, if_neg hne]; exact AG.refl _ _ _
    · rw [X.same ht hx ha]; exact AG.refl _ _ _

theorem Txt.agreeB1 {t : Nat} (ht : t < l.length) {b : Nat} (hb : b < (WT t).next) (hne : b ≠ base + t) (hc : ∀ lg, rT t = .x lg → cleanB lg b = true) : (WT (t + 1)).get b = (WT t).get b := by
  by_cases hx : isX rT t
  · obtain ⟨lg, hlg⟩ := id hx
    obtain ⟨s, o, W1, g1, g2, g3, g4, g5, g6, g7⟩ := X.xStep ht hlg
    by_cases hm : b ∈ masks s.pre (recsT rT t) 0
    · obtain ⟨i, h1, h2, rfl, h3⟩ := (X.mask_iff ht g1 b).1 hm
      obtain ⟨ob, h4, h5⟩ := X.masked_same ht hx h1 h2 h3
      rw [h4, h5]
    · obtain ⟨nl, k1, k2, k3⟩ := (doX_both X.B g4).keeps
      have e1 : nl = W1.log := by simpa using k1.symm
      subst e1
      have := (k3 b (by simpa using hb)).2.1 (by rw [g6]; exact hc lg hlg)
      rw [CW.get_relog, maskL_get, if_neg hm] at this
      rw [g7, CW.get_relog, unmaskL_get, if_neg hm]
      exact this
  · by_cases ha : isA rT base t
    · obtain ⟨s, o, ob, k1, k2, k3, k4, k5, k6⟩ := X.aStep ht ha
      rw [k6, CW.get_bear, if_neg hne]
    · rw [X.same ht hx ha]

theorem Txt.agree {p b lo hi : Nat} (hb : b < (WT p).next) : ∀ (q : Nat), p ≤ q → q ≤ l.length → (∀ t, p ≤ t → t < q → b ≠ base + t ∧ ∀ lg, rT t = .x lg → clean lg b lo hi = true) → AG ((WT p).get b) ((WT q).get b) lo hi := by
  intro q
  induction q with
  | zero => intro h _ _; have : p = 0 := by omega
            subst this; exact AG.refl _ _ _
  | succ q ih =>
    intro h h2 hno
    rcases Nat.lt_or_ge q p with h3 | h3
    · have : p = q + 1 := by omega
      subst this; exact AG.refl _ _ _
    · have g := ih h3 (by omega) (fun t a b => hno t a (by omega))
      have hbq := Nat.lt_of_lt_of_le hb (X.next_mono q h3 (by omega)).1
      exact g.trans (X.agree1 (by omega) hbq (hno q h3 (by omega)).1 (hno q h3 (by omega)).2)

theorem Txt.agreeB {p b : Nat} (hb : b < (WT p).next) : ∀ (q : Nat), p ≤ q → q ≤ l.length → (∀ t, p ≤ t → t < q → b ≠ base + t ∧ ∀ lg, rT t = .x lg → cleanB lg b = true) → (WT q).get b = (WT p).get b := by
  intro q
  induction q with
  | zero => intro h _ _; have : p = 0 := by omega
            subst this; rfl
  | succ q ih =>
    intro h h2 hno
    rcases Nat.lt_or_ge q p with h3 | h3
    · have : p = q + 1 := by omega
      subst this; rfl
    · have g := ih h3 (by omega) (fun t a b => hno t a (by omega))
      have hbq := Nat.lt_of_lt_of_le hb (X.next_mono q h3 (by omega)).1
      exact (X.agreeB1 (by omega) hbq (hno q h3 (by omega)).1 (hno q h3 (by omega)).2).trans g

theorem Txt.fresh : ∀ (j : Nat), j ≤ l.length → Fresh (WT j) := by
  intro j
  induction j with
  | zero => intro _ b hb; have := X.n0; exact X.f0 b (by omega)
  | succ t ih =>
    intro hj
    have ht : t < l.length := by omega
    have hf := ih (by omega)
    have hn := (X.next_mono t (Nat.zero_le _) (by omega)).1
    have hn0 := X.n0
    by_cases hx : isX rT t
    · obtain ⟨lg, hlg⟩ := id hx
      obtain ⟨s, o, W1, g1, g2, g3, g4, g5, g6, g7⟩ := X.xStep ht hlg
      have hm : ∀ b ∈ masks s.pre (recsT rT t) 0, b < (WT t).next := by
        intro b hb
        obtain ⟨i, h1, _, rfl, _⟩ := (X.mask_iff ht g1 b).1 hb
        omega
      obtain ⟨nl, _, hle, _⟩ := (doX_both X.B g4).keeps
      have hle' : (WT t).next ≤ W1.next := by simpa using hle
      rw [g7]
      have h1 : Fresh ((maskL (WT t) (masks s.pre (recsT rT t) 0)).relog []) := Fresh.maskL X.C hf _ hm
      exact show Fresh _ from Fresh.unmaskL X.C (doX_fresh X.C g4 h1) _ fun b hb => Nat.lt_of_lt_of_le (hm b hb) hle'
    · by_cases ha : isA rT base t
      · obtain ⟨s, o, ob, k1, k2, k3, k4, k5, k6⟩ := X.aStep ht ha
        rw [k6]
        exact hf.bear (by omega) _
      · rw [X.same ht hx ha]; exact hf

end

end Go.Can
