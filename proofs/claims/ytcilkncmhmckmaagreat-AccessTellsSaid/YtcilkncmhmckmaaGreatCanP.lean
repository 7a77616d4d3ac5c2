/-
  The canonical semantics: regions whose order is drawn. Any order comes to what the text's order comes to.
-/
import Derived.Test.YtcilkncmhmckmaaGreatCanO
namespace Go.Can
open Go
set_option linter.all false

theorem Sim.congr {r : Rn} {W W' : CW} {w : World} (hs : Sim r W w) (hn : W'.next = W.next) (hg : ∀ b, W'.get b = W.get b) : Sim r W' w := by
  refine ⟨by rw [hn]; exact hs.n, fun b p hp => ?_, fun b ob hb h => hs.tot b ob hb (by rw [← hg]; exact h), fun b b' p p' h1 h2 h3 => ?_, fun b hb => by rw [hg]; exact hs.fresh b (by rw [← hn]; exact hb), fun b hb => by rw [hg]; exact hs.here b hb⟩
  · obtain ⟨h1, ob, h2, h3⟩ := hs.obj b p hp
    exact ⟨h1, ob, by rw [hg]; exact h2, h3⟩
  · rcases hs.inj b b' p p' h1 h2 h3 with h | ⟨⟨c, h4⟩, ⟨c', h5⟩⟩
    · exact .inl h
    · exact .inr ⟨⟨c, by rw [hg]; exact h4⟩, ⟨c', by rw [hg]; exact h5⟩⟩

theorem sub_get (a : CAct) : ∀ (ts : List Nat) (t : Nat) (v : Value), (sub a ts).get t = some v → a.get t = some v
  | [], t, v, h => by simp [sub] at h
  | d :: l, t, v, h => by
    simp only [sub] at h
    split at h
    · rename_i u hu
      rw [Tr.get_set] at h
      split at h
      · rename_i e; subst e; rw [hu]; exact h
      · exact sub_get a l t v h
    · exact sub_get a l t v h

theorem sub_congr {a a' : CAct} : ∀ (ts : List Nat), (∀ d ∈ ts, a.get d = a'.get d) → sub a ts = sub a' ts
  | [], _ => rfl
  | d :: l, h => by
    simp only [sub]
    rw [h d (by simp), sub_congr l fun d hd => h d (by simp [hd])]

theorem AR.sub {r : Rn} {N : Nat} {a : CAct} {act : Act} (h : AR r N a act) (ts : List Nat) : AR r N (Can.sub a ts) act :=
  ⟨h.size, h.defers, fun t v hv => h.tmp t v (sub_get a ts t v hv)⟩

/-- What a temporary holds when the steps of S are done, in whatever order. -/
def Fr (l : List RStep) (vT : Nat → Value) (a0 : CAct) (S : Nat → Prop) (d : Nat) (x : Option Value) : Prop :=
  (∃ t s, S t ∧ l[t]? = some s ∧ s.dst = some d ∧ x = some (vT t) ∧ ∀ t' s', S t' → t < t' → l[t']? = some s' → s'.dst ≠ some d) ∨
  ((∀ t s, S t → l[t]? = some s → s.dst ≠ some d) ∧ x = a0.get d)

theorem Fr.unique {l : List RStep} {vT : Nat → Value} {a0 : CAct} {S S' : Nat → Prop} {d : Nat} {x y : Option Value} (h : Fr l vT a0 S d x) (h' : Fr l vT a0 S' d y)
    (hss : ∀ t s, l[t]? = some s → s.dst = some d → (S t ↔ S' t)) : x = y := by
  rcases h with ⟨t, s, h1, h2, h3, h4, h5⟩ | ⟨h1, h2⟩
  · rcases h' with ⟨t', s', g1, g2, g3, g4, g5⟩ | ⟨g1, g2⟩
    · have e1 : ¬ t < t' := fun hlt => h5 t' s' ((hss t' s' g2 g3).2 g1) hlt g2 g3
      have e2 : ¬ t' < t := fun hlt => g5 t s ((hss t s h2 h3).1 h1) hlt h2 h3
      have : t = t' := by omega
      subst this
      rw [h4, g4]
    · exact absurd h3 (g1 t s ((hss t s h2 h3).1 h1) h2)
  · rcases h' with ⟨t', s', g1, g2, g3, g4, g5⟩ | ⟨g1, g2⟩
    · exact absurd g3 (h1 t' s' ((hss t' s' g2 g3).2 g1) g2)
    · rw [h2, g2]

theorem apartS_spec {x y : RStep} (h : apartS x y = true) : (∀ d, x.dst = some d → d ∉ y.look) ∧ (∀ d, x.dst = some d → y.dst ≠ some d) ∧ (∀ d, y.dst = some d → d ∉ x.look) := by
  refine ⟨fun d hd => ?_, fun d hd => ?_, fun d hd => ?_⟩ <;> simp [apartS, hd] at h
  · exact h.1.1
  · exact h.1.2
  · exact h.2

/-- Putting one more step's value. -/
theorem Fr.put {P : Program} {N : Nat} {ops : Array Oper} {l : List RStep} (D : Drawn P N ops l) {vT : Nat → Value} {a0 a : CAct} {S : Nat → Prop} {j : Nat} {s : RStep} (hs : l[j]? = some s) (hj : ¬ S j)
    (hcl : ∀ t, S t → ∀ i, Pr l t i → S i) (hfr : ∀ d, Fr l vT a0 S d (a.get d)) : ∀ d, Fr l vT a0 (fun t => t = j ∨ S t) d ((putd a s.dst (vT j)).get d) := by
  intro d
  by_cases hd : s.dst = some d
  · left
    refine ⟨j, s, .inl rfl, hs, hd, ?_, fun t' s' ht hlt hs' => ?_⟩
    · rw [hd]; simp [putd, Tr.get_set]
    · rcases ht with h | h
      · omega
      · have := D.apart j t' s s' hlt hs hs' (fun hp => hj (hcl t' h j hp))
        exact (apartS_spec this).2.1 d hd
  · have e : (putd a s.dst (vT j)).get d = a.get d := by
      cases hq : s.dst with
      | none => rfl
      | some d' =>
        have : d ≠ d' := fun e => hd (by rw [hq, e])
        simp [putd, Tr.get_set, this]
    rw [e]
    rcases hfr d with ⟨t, s', h1, h2, h3, h4, h5⟩ | ⟨h1, h2⟩
    · refine .inl ⟨t, s', .inr h1, h2, h3, h4, fun t' s2 ht hlt hs2 => ?_⟩
      rcases ht with h | h
      · subst h; rw [hs] at hs2; cases hs2; exact hd
      · exact h5 t' s2 h hlt hs2
    · refine .inr ⟨fun t s' ht hs' => ?_, h2⟩
      rcases ht with h | h
      · subst h; rw [hs] at hs'; cases hs'; exact hd
      · exact h1 t s' h hs'

theorem Fr.text {P : Program} {call : CCall} {N : Nat} {ops : Array Oper} {base : Nat} {l : List RStep} {aT : Nat → CAct} {WT : Nat → CW} {vT : Nat → Value} {rT : Nat → Rec} (X : Txt P call N ops base l aT WT vT rT) :
    ∀ (j : Nat), j ≤ l.length → ∀ d, Fr l vT (aT 0) (fun t => t < j) d ((aT j).get d) := by
  intro j
  induction j with
  | zero => intro _ d; exact .inr ⟨fun t s h => by omega, rfl⟩
  | succ j ih =>
    intro hj d
    have hlt : j < l.length := by omega
    have h1 := ih (by omega)
    rw [X.T.fr j l[j] (by simp [hlt])]
    have := Fr.put X.D (S := fun t => t < j) (j := j) (s := l[j]) (by simp [hlt]) (by omega) (fun t ht i hp => by have h3 := X.D.lt t i hp; have h4 : t < j := ht; show i < j; omega) h1 d
    rcases this with ⟨t, s, h1, h2⟩ | ⟨h1, h2⟩
    · exact .inl ⟨t, s, h1.elim (fun e => by show t < j + 1; omega) (fun e => Nat.lt_succ_of_lt e), h2.1, h2.2.1, h2.2.2.1, fun t' s' ht => h2.2.2.2 t' s' (by have h4 : t' < j + 1 := ht; rcases Nat.lt_or_ge t' j with h5 | h5; exact .inr h5; exact .inl (by omega))⟩
    · exact .inr ⟨fun t s ht => h1 t s (by have h4 : t < j + 1 := ht; rcases Nat.lt_or_ge t j with h5 | h5; exact .inr h5; exact .inl (by omega)), h2⟩

/-- How all stands when the steps of S are done. -/
structure Hp (base : Nat) (l : List RStep) (WT : Nat → CW) (rT : Nat → Rec) (S : Nat → Prop) (W : CW) (m : Nat) : Prop where
  le : m ≤ l.length
  lt : ∀ t, S t → isX rT t → t < m
  is : m = 0 ∨ ∃ t, S t ∧ isX rT t ∧ m = t + 1
  next : W.next = (WT m).next
  log : W.log = (WT m).log
  far : ∀ b, (b < base ∨ base + l.length ≤ b) → W.get b = (WT m).get b
  near : ∀ i, i < l.length → S i → isA rT base i → W.get (base + i) = (WT (max m (i + 1))).get (base + i)
  none : ∀ i, i < l.length → ¬ (S i ∧ isA rT base i) → W.get (base + i) = none

def Inv (P : Program) (N : Nat) (base : Nat) (l : List RStep) (aT : Nat → CAct) (WT : Nat → CW) (vT : Nat → Value) (rT : Nat → Rec) (r0 : Rn) (W0 : CW) (w0 : World) (S : Nat → Prop) (act : Act) (w : World) : Prop :=
  (∀ t, S t → t < l.length) ∧ (∀ t, S t → ∀ i, Pr l t i → S i) ∧
  ∃ r W a m nl, Sim r W w ∧ AR r N a act ∧ (∀ d, Fr l vT (aT 0) S d (a.get d)) ∧ Hp base l WT rT S W m ∧ W.log = nl ++ W0.log ∧ Mv r0 w0 nl r w

section
variable {P : Program} {call : CCall} {N : Nat} {ops : Array Oper} {base : Nat} {l : List RStep} {aT : Nat → CAct} {WT : Nat → CW} {vT : Nat → Value} {rT : Nat → Rec} (X : Txt P call N ops base l aT WT vT rT)
include X

/-- What a step that is ready looks at is what it looked at in the text's order. -/
theorem Txt.look {S : Nat → Prop} {a : CAct} {j : Nat} {s : RStep} (hs : l[j]? = some s) (hj : ¬ S j) (hrd : ∀ i, Pr l j i → S i) (hcl : ∀ t, S t → ∀ i, Pr l t i → S i) (hfr : ∀ d, Fr l vT (aT 0) S d (a.get d)) :
    sub a s.look = sub (aT j) s.look := by
  have hjl : j < l.length := (List.getElem?_eq_some_iff.1 hs).1
  refine sub_congr _ fun d hd => ?_
  refine Fr.unique (hfr d) (Fr.text X j (by omega) d) fun t s' hs' hdst => ?_
  constructor
  · intro ht
    show t < j
    rcases Nat.lt_trichotomy t j with h | h | h
    · exact h
    · subst h; exact absurd ht hj
    · have := X.D.apart j t s s' h hs hs' (fun hp => hj (hcl t ht j hp))
      exact absurd hd ((apartS_spec this).2.2 d hdst)
  · intro ht
    have ht' : t < j := ht
    by_cases hp : Pr l j t
    · exact hrd t hp
    · have := X.D.apart t j s' s ht' hs' hs hp
      exact absurd hd ((apartS_spec this).1 d hdst)

/-- The steps that write, that are done, are those that come first. -/
theorem Txt.xs_done {S : Nat → Prop} {W : CW} {m : Nat} (H : Hp base l WT rT S W m) (hlt : ∀ t, S t → t < l.length) (hcl : ∀ t, S t → ∀ i, Pr l t i → S i) {t : Nat} (ht : t < m) (hx : isX rT t) : S t := by
  rcases H.is with h | ⟨t0, h1, h2, h3⟩
  · omega
  · rcases Nat.lt_or_ge t t0 with h4 | h4
    · exact hcl t0 h1 t (X.xx (hlt t0 h1) h2 hx h4)
    · have : t = t0 := by omega
      subst this; exact h1

/-- A step that only reads, or makes nothing, leaves the heap's state as it was. -/
theorem Hp.quiet {S : Nat → Prop} {W : CW} {m j : Nat} (H : Hp base l WT rT S W m) (hx : ¬ isX rT j) (ha : ¬ isA rT base j) (hj : ¬ S j) : Hp base l WT rT (fun t => t = j ∨ S t) W m := by
  refine ⟨H.le, fun t ht hxt => ?_, ?_, H.next, H.log, H.far, fun i hi hs hai => ?_, fun i hi hn => ?_⟩
  · rcases ht with h | h
    · subst h; exact absurd hxt hx
    · exact H.lt t h hxt
  · rcases H.is with h | ⟨t, h1, h2, h3⟩
    · exact .inl h
    · exact .inr ⟨t, .inr h1, h2, h3⟩
  · rcases hs with h | h
    · subst h; exact absurd hai ha
    · exact H.near i hi h hai
  · exact H.none i hi fun h => hn ⟨.inr h.1, h.2⟩

/-- A step that makes a block. -/
theorem Txt.hp_make {S : Nat → Prop} {W : CW} {m j : Nat} (H : Hp base l WT rT S W m) (hlt : ∀ t, S t → t < l.length) (hcl : ∀ t, S t → ∀ i, Pr l t i → S i) (hjl : j < l.length) (hj : ¬ S j) (ha : isA rT base j) {ob : CObj}
    (hob : (WT (j + 1)).get (base + j) = some ob) : Hp base l WT rT (fun t => t = j ∨ S t) (W.bear (base + j) ob) m := by
  have hx : ¬ isX rT j := fun ⟨lg, h⟩ => by unfold isA at ha; rw [h] at ha; cases ha
  refine ⟨H.le, fun t ht hxt => ?_, ?_, H.next, H.log, fun b hb => ?_, fun i hi hs hai => ?_, fun i hi hn => ?_⟩
  · rcases ht with h | h
    · subst h; exact absurd hxt hx
    · exact H.lt t h hxt
  · rcases H.is with h | ⟨t, h1, h2, h3⟩
    · exact .inl h
    · exact .inr ⟨t, .inr h1, h2, h3⟩
  · rw [CW.get_bear, if_neg (by omega)]; exact H.far b hb
  · by_cases e : i = j
    · subst e
      rw [CW.get_bear, if_pos rfl]
      obtain ⟨ob', h1⟩ := X.born hjl ha
      have hle := H.le
      have e1 := h1 (i + 1) (by omega) (by omega) (fun t a b => by omega)
      rw [hob] at e1; cases e1
      refine (h1 (max m (i + 1)) (by omega) (by omega) fun t h2 h3 h4 h5 => ?_).symm
      exact hj (hcl t (X.xs_done H hlt hcl (by omega) h4) i h5)
    · rw [CW.get_bear, if_neg (by omega)]
      rcases hs with h | h
      · exact absurd h e
      · exact H.near i hi h hai
  · have e : i ≠ j := fun e => hn ⟨.inl e, e ▸ ha⟩
    rw [CW.get_bear, if_neg (by omega)]
    exact H.none i hi fun h => hn ⟨.inr h.1, h.2⟩

/-- A step that writes: its run, and how all stands behind it. -/
theorem Txt.hp_act {S : Nat → Prop} {W : CW} {m j : Nat} (H : Hp base l WT rT S W m) (hfresh : ∀ b, W.next ≤ b → W.get b = none) (hlt : ∀ t, S t → t < l.length) (hcl : ∀ t, S t → ∀ i, Pr l t i → S i) (hj : ¬ S j) (hrd : ∀ i, Pr l j i → S i)
    {s : RStep} {o : XOp} {W1 : CW} (hs : l[j]? = some s) (hxj : isX rT j) {A : CAct} (h1 : doX P call A o ((maskL (WT j) (masks s.pre (recsT rT j) 0)).relog []) = some (vT j, W1))
    (hWT : WT (j + 1) = (unmaskL (WT j) W1 (masks s.pre (recsT rT j) 0)).relog (W1.log ++ (WT j).log)) :
    ∃ U', doX P call A o (W.relog []) = some (vT j, U') ∧ U'.log = W1.log ∧ Hp base l WT rT (fun t => t = j ∨ S t) (U'.relog (W1.log ++ W.log)) (j + 1) := by
  have hjl : j < l.length := (List.getElem?_eq_some_iff.1 hs).1
  have hmj : m ≤ j := by
    rcases H.is with h | ⟨t0, g1, g2, g3⟩
    · omega
    · rcases Nat.lt_trichotomy t0 j with h | h | h
      · omega
      · subst h; exact absurd g1 hj
      · exact absurd (hcl t0 g1 j (X.xx (hlt t0 g1) g2 hxj h)) hj
  have hno : ∀ t, m ≤ t → t < j → ¬ isX rT t := fun t a b hx => by
    have := H.lt t (hrd t (X.xx hjl hxj hx b)) hx
    omega
  obtain ⟨st1, st2, st3⟩ := X.still j hmj (by omega) hno
  have hn0 := X.n0
  have hnext0 := (X.next_mono j (Nat.zero_le _) (by omega)).1
  have hmask := X.mask_iff hjl hs
  have hnear : ∀ i, i < j → S i → isA rT base i → W.get (base + i) = (WT j).get (base + i) := by
    intro i hi hsi hai
    rw [H.near i (by omega) hsi hai]
    exact ((X.still j (p := max m (i + 1)) (by omega) (by omega) (fun t a b => hno t (by omega) b)).2.2 (base + i) (fun i' a b => by omega)).symm
  let Hd : Nat → Prop := fun b => ∃ i, i < l.length ∧ b = base + i ∧ ¬ Pr l j i
  have hoff : Off Hd ((maskL (WT j) (masks s.pre (recsT rT j) 0)).relog []) := by
    rintro b ⟨i, hi, rfl, hp⟩
    refine ⟨by simp; omega, ?_⟩
    rw [CW.get_relog, maskL_get]
    split
    · exact .inr rfl
    · rename_i hm
      left
      refine X.unborn j (by omega) i hi ?_
      by_cases hij : i < j
      · right
        intro hai
        exact hm ((hmask _).2 ⟨i, hij, hai, rfl, hp⟩)
      · exact .inl (by omega)
  have heq : EqH Hd ((maskL (WT j) (masks s.pre (recsT rT j) 0)).relog []) (W.relog []) := by
    refine ⟨by simp [H.next, st1], rfl, fun b hb => ?_⟩
    have hnm : b ∉ masks s.pre (recsT rT j) 0 := by
      rw [hmask]
      rintro ⟨i, g1, g2, g3, g4⟩
      exact hb ⟨i, by omega, g3, g4⟩
    rw [CW.get_relog, CW.get_relog, maskL_get, if_neg hnm]
    by_cases hres : b < base ∨ base + l.length ≤ b
    · rw [H.far b hres]
      exact st3 b fun i a c => by omega
    · obtain ⟨i, hi, rfl⟩ : ∃ i, i < l.length ∧ b = base + i := ⟨b - base, by omega, by omega⟩
      have hp : Pr l j i := by
        by_cases hp : Pr l j i
        · exact hp
        · exact absurd ⟨i, hi, rfl, hp⟩ hb
      have hij := X.D.lt j i hp
      by_cases hai : isA rT base i
      · exact (hnear i hij (hrd i hp) hai).symm
      · rw [H.none i hi fun h => hai h.2, X.unborn j (by omega) i hi (.inr hai)]
  obtain ⟨U', g1, g2⟩ := (doX_both X.B h1).mono Hd _ heq hoff
  refine ⟨U', g1, g2.eq.log.symm, ?_⟩
  have hq : ∀ i, i < l.length → W.get (base + i) = none → U'.get (base + i) = none := by
    intro i hi hw
    have := doX_quiet X.B g1 (b := base + i) (by simp [H.next, ← st1]; omega) (.inl (by simpa using hw))
    rw [this]; simpa using hw
  refine ⟨by omega, fun t ht hxt => ?_, .inr ⟨j, .inl rfl, hxj, rfl⟩, ?_, ?_, fun b hb => ?_, fun i hi hsi hai => ?_, fun i hi hn => ?_⟩
  · rcases ht with h | h
    · omega
    · have := H.lt t h hxt; omega
  · rw [hWT]; simp [g2.eq.next]
  · rw [hWT]; simp [H.log, st2]
  · have hnH : ¬ Hd b := by rintro ⟨i, hi, rfl, _⟩; omega
    have hnm : b ∉ masks s.pre (recsT rT j) 0 := by
      rw [hmask]; rintro ⟨i, k1, k2, k3, k4⟩; omega
    rw [hWT, CW.get_relog, CW.get_relog, unmaskL_get, if_neg hnm]
    exact (g2.eq.get b hnH).symm
  · have hij : i ≠ j := by
      rintro rfl
      obtain ⟨lg, h⟩ := hxj
      unfold isA at hai; rw [h] at hai; cases hai
    have hsi' : S i := hsi.resolve_left hij
    rw [CW.get_relog]
    by_cases hp : Pr l j i
    · have hij2 := X.D.lt j i hp
      have hnH : ¬ Hd (base + i) := by rintro ⟨i', h2, h3, h4⟩; have : i' = i := by omega
                                       subst this; exact h4 hp
      have hnm : base + i ∉ masks s.pre (recsT rT j) 0 := by
        rw [hmask]; rintro ⟨i', k1, k2, k3, k4⟩; have : i' = i := by omega
        subst this; exact k4 hp
      rw [show max (j + 1) (i + 1) = j + 1 by omega, hWT, CW.get_relog, unmaskL_get, if_neg hnm]
      exact (g2.eq.get _ hnH).symm
    · have hH : Hd (base + i) := ⟨i, hi, rfl, hp⟩
      rw [g2.same _ hH, CW.get_relog]
      by_cases hij2 : i < j
      · rw [hnear i hij2 hsi' hai, show max (j + 1) (i + 1) = j + 1 by omega]
        obtain ⟨ob, k1, k2⟩ := X.masked_same hjl hxj hij2 hai hp
        rw [k1, k2]
      · rw [H.near i hi hsi' hai]
        congr 2
        omega
  · rw [CW.get_relog]
    exact hq i hi (H.none i hi fun h => hn ⟨.inr h.1, h.2⟩)

/-- A read comes to what it came to in the text's order. -/
theorem lval_AG {a : CAct} {o : LOp} {ob : CObj} {v : Value} {lo hi : Nat} {x : Option CObj} (hv : lval a o ob = some v) (hsp : lspan a o = some (lo, hi)) (hag : AG (some ob) x lo hi) : ∃ ob', x = some ob' ∧ lval a o ob' = some v := by
  rcases hag with h | ⟨cs, cs', own, own', h1, h2, h3⟩
  · exact ⟨ob, h, hv⟩
  · cases h1
    refine ⟨.row cs' own', h2, ?_⟩
    cases o with
    | load k y =>
      simp only [lval] at *
      simp only [lspan] at hsp
      split at hv
      · rename_i b off sp hy
        rw [hy] at hsp
        simp only [Option.some.injEq, Prod.mk.injEq] at hsp
        obtain ⟨rfl, rfl⟩ := hsp
        cases k with
        | none =>
          simp only [part] at *
          rw [h3 off (by omega) (by simp)]
          exact hv
        | some n =>
          simp only [part] at *
          have : cut off n cs' = cut off n cs := by
            have e : (cs'.drop off).take n = (cs.drop off).take n := by
              apply List.ext_getElem?
              intro i
              rw [List.getElem?_take, List.getElem?_take]
              split
              · rename_i hi2
                rw [List.getElem?_drop, List.getElem?_drop]
                exact h3 (off + i) (by omega) (by simp; omega)
              · rfl
            simp only [cut, e]
          rw [this]
          exact hv
      · cases hv
    | _ => simp [lspan] at hsp

theorem Txt.hp_read {S : Nat → Prop} {W : CW} {m j : Nat} (H : Hp base l WT rT S W m) (hlt : ∀ t, S t → t < l.length) (hcl : ∀ t, S t → ∀ i, Pr l t i → S i) (hj : ¬ S j) (hrd : ∀ i, Pr l j i → S i)
    {s : RStep} (hs : l[j]? = some s) {b : Nat} {ob : CObj} (hg : (WT j).get b = some ob) (hbW : b < W.next) :
    (∀ lo hi, okL s.pre b lo hi (recsT rT j) 0 = true → rT j = .l b lo hi → AG (some ob) (W.get b) lo hi) ∧ (okM s.pre b (recsT rT j) 0 = true → rT j = .m b → W.get b = some ob) := by
  have hjl : j < l.length := (List.getElem?_eq_some_iff.1 hs).1
  have hb : b < (WT j).next := (X.fresh j (by omega)).lt (by rw [hg]; simp)
  have hPr : ∀ i, s.pre.testBit i = true → Pr l j i := fun i h => ⟨s, hs, h⟩
  have hle := H.le
  -- where the block stands now, told by the text's order
  have hq : (∀ i, i < j → rT i = .a b → Pr l j i) → ∃ q, m ≤ q ∧ q ≤ l.length ∧ (q ≤ m ∨ q ≤ j) ∧ W.get b = (WT q).get b ∧ ∀ t, min q j ≤ t → t < max q j → b ≠ base + t := by
    intro hA
    by_cases hres : b < base ∨ base + l.length ≤ b
    · exact ⟨m, Nat.le_refl _, hle, .inl (Nat.le_refl _), H.far b hres, fun t a c => by omega⟩
    · obtain ⟨i, hi, rfl⟩ : ∃ i, i < l.length ∧ b = base + i := ⟨b - base, by omega, by omega⟩
      have hij : i < j ∧ isA rT base i := by
        by_cases h : i < j ∧ isA rT base i
        · exact h
        · have := X.unborn j (by omega) i hi (by
            by_cases h2 : i < j
            · exact .inr fun h3 => h ⟨h2, h3⟩
            · exact .inl (by omega))
          rw [hg] at this; cases this
      have hp := hA i hij.1 hij.2
      exact ⟨max m (i + 1), by omega, by omega, by omega, H.near i hi (hrd i hp) hij.2, fun t a c => by omega⟩
  have hmb : b < (WT m).next := by rw [← H.next]; exact hbW
  constructor
  · intro lo hi hok hrt
    obtain ⟨q, q1, q2, q3, q4, q5⟩ := hq fun i hi ha => by
      rcases (okL_at _ 0 i hok).1 b (by rw [recsT_get rT hi, ha]) with h | h
      · exact hPr i (by simpa using h)
      · exact absurd rfl h
    rw [q4, ← hg]
    rcases Nat.lt_or_ge j q with hc | hc
    · -- the steps of j ..< q that write are done, and leave the cells alone
      refine X.agree hb q (by omega) q2 fun t h2 h3 => ⟨q5 t (by omega) (by omega), fun lg hlg => ?_⟩
      have hSt : S t := X.xs_done H hlt hcl (by omega) ⟨lg, hlg⟩
      have htl := hlt t hSt
      have hne : t ≠ j := fun e => hj (e ▸ hSt)
      obtain ⟨s', o', W1, g1, g2, g3, g4, g5, g6, g7⟩ := X.xStep htl hlg
      rcases (okX_at _ 0 j g5).1 b lo hi (by rw [recsT_get rT (by omega), hrt]) with h | h
      · exact absurd (hcl t hSt j ⟨s', g1, by simpa using h⟩) hj
      · rw [← g6]; exact h
    · -- the steps of q ..< j that write are not done, and leave the cells alone
      have hbq := Nat.lt_of_lt_of_le hmb (X.next_mono q q1 q2).1
      refine (X.agree hbq j (by omega) (by omega) fun t h2 h3 => ⟨q5 t (by omega) (by omega), fun lg hlg => ?_⟩).symm
      rcases (okL_at _ 0 t hok).2 lg (by rw [recsT_get rT h3, hlg]) with h | h
      · have := H.lt t (hrd t (hPr t (by simpa using h))) ⟨lg, hlg⟩
        omega
      · exact h
  · intro hok hrt
    obtain ⟨q, q1, q2, q3, q4, q5⟩ := hq fun i hi ha => by
      rcases (okM_at _ 0 i hok).1 b (by rw [recsT_get rT hi, ha]) with h | h
      · exact hPr i (by simpa using h)
      · exact absurd rfl h
    rw [q4, ← hg]
    rcases Nat.lt_or_ge j q with hc | hc
    · refine X.agreeB hb q (by omega) q2 fun t h2 h3 => ⟨q5 t (by omega) (by omega), fun lg hlg => ?_⟩
      have hSt : S t := X.xs_done H hlt hcl (by omega) ⟨lg, hlg⟩
      have htl := hlt t hSt
      have hne : t ≠ j := fun e => hj (e ▸ hSt)
      obtain ⟨s', o', W1, g1, g2, g3, g4, g5, g6, g7⟩ := X.xStep htl hlg
      rcases (okX_at _ 0 j g5).2.1 b (by rw [recsT_get rT (by omega), hrt]) with h | h
      · exact absurd (hcl t hSt j ⟨s', g1, by simpa using h⟩) hj
      · rw [← g6]; exact h
    · have hbq := Nat.lt_of_lt_of_le hmb (X.next_mono q q1 q2).1
      refine (X.agreeB hbq j (by omega) (by omega) fun t h2 h3 => ⟨q5 t (by omega) (by omega), fun lg hlg => ?_⟩).symm
      rcases (okM_at _ 0 t hok).2 lg (by rw [recsT_get rT h3, hlg]) with h | h
      · have := H.lt t (hrd t (hPr t (by simpa using h))) ⟨lg, hlg⟩
        omega
      · exact h

end

end Go.Can
