/-
  The canonical semantics by itself: what a run leaves alone, and that it does not hang on blocks that it can't see.
-/
import Derived.Test.YtcilkncmhmckmaaGreatCanA
import Derived.Test.YtcilkncmhmckmaaGreatCanB
namespace Go.Can
open Go
set_option linter.all false

/-! What is left alone. -/

/-- Two objects that have the same cells in a span. -/
def AG (o o' : Option CObj) (lo hi : Nat) : Prop := o' = o ∨ ∃ cs cs' own own', o = some (.row cs own) ∧ o' = some (.row cs' own') ∧ ∀ x, lo ≤ x → x < hi → cs'[x]? = cs[x]?

theorem AG.refl (o : Option CObj) (lo hi : Nat) : AG o o lo hi := .inl rfl

theorem AG.trans {o o' o'' : Option CObj} {lo hi : Nat} (h : AG o o' lo hi) (h' : AG o' o'' lo hi) : AG o o'' lo hi := by
  rcases h with rfl | ⟨cs, cs', own, own', h1, h2, h3⟩
  · exact h'
  · rcases h' with rfl | ⟨ds, ds', own2, own2', g1, g2, g3⟩
    · exact .inr ⟨cs, cs', own, own', h1, h2, h3⟩
    · rw [h2] at g1; cases g1
      exact .inr ⟨cs, ds', own, own2', h1, g2, fun x hx hx' => (g3 x hx hx').trans (h3 x hx hx')⟩

theorem AG.symm {o o' : Option CObj} {lo hi : Nat} (h : AG o o' lo hi) : AG o' o lo hi := by
  rcases h with rfl | ⟨cs, cs', own, own', h1, h2, h3⟩
  · exact .inl rfl
  · exact .inr ⟨cs', cs, own', own, h2, h1, fun x hx hx' => (h3 x hx hx').symm⟩

theorem clean_append (nl nl' : List LE) (b lo hi : Nat) : clean (nl ++ nl') b lo hi = (clean nl b lo hi && clean nl' b lo hi) := by simp [clean]
theorem cleanB_append (nl nl' : List LE) (b : Nat) : cleanB (nl ++ nl') b = (cleanB nl b && cleanB nl' b) := by simp [cleanB]

def Keeps (W W' : CW) : Prop := ∃ nl, W'.log = nl ++ W.log ∧ W.next ≤ W'.next ∧ ∀ b, b < W.next →
  (∀ lo hi, clean nl b lo hi = true → AG (W.get b) (W'.get b) lo hi) ∧ (cleanB nl b = true → W'.get b = W.get b) ∧ (∀ cs, W.get b = some (.row cs false) → ¬ touched nl b ∧ W'.get b = some (.row cs false))

theorem Keeps.refl (W : CW) : Keeps W W := ⟨[], rfl, Nat.le_refl _, fun b _ => ⟨fun _ _ _ => AG.refl _ _ _, fun _ => rfl, fun cs h => ⟨by simp [touched], h⟩⟩⟩

theorem Keeps.trans {W W' W'' : CW} (h : Keeps W W') (h' : Keeps W' W'') : Keeps W W'' := by
  obtain ⟨nl, h1, h2, h3⟩ := h
  obtain ⟨nl', g1, g2, g3⟩ := h'
  refine ⟨nl' ++ nl, by rw [g1, h1, List.append_assoc], Nat.le_trans h2 g2, fun b hb => ⟨fun lo hi hc => ?_, fun hc => ?_, fun cs hr => ?_⟩⟩
  · rw [clean_append, Bool.and_eq_true] at hc
    exact ((h3 b hb).1 lo hi hc.2).trans ((g3 b (Nat.lt_of_lt_of_le hb h2)).1 lo hi hc.1)
  · rw [cleanB_append, Bool.and_eq_true] at hc
    exact ((g3 b (Nat.lt_of_lt_of_le hb h2)).2.1 hc.1).trans ((h3 b hb).2.1 hc.2)
  · obtain ⟨k1, k2⟩ := (h3 b hb).2.2 cs hr
    obtain ⟨k3, k4⟩ := (g3 b (Nat.lt_of_lt_of_le hb h2)).2.2 cs k2
    exact ⟨fun h => (touched_append.1 h).elim k3 k1, k4⟩

theorem Keeps.put (W : CW) (b : Nat) (o : CObj) (hno : ∀ cs, W.get b ≠ some (.row cs false)) : Keeps W (W.put b o) := by
  refine ⟨[.all b], rfl, Nat.le_refl _, fun j hj => ⟨fun lo hi hc => ?_, fun hc => ?_, fun cs hr => ?_⟩⟩
  · simp [clean] at hc
    left; rw [CW.get_put, if_neg (fun e => hc e.symm)]
  · simp [cleanB] at hc
    rw [CW.get_put, if_neg (fun e => hc e.symm)]
  · have hne : j ≠ b := fun e => hno cs (e ▸ hr)
    refine ⟨?_, by rw [CW.get_put, if_neg hne]; exact hr⟩
    rintro ⟨e, he, h⟩
    simp at he; subst he
    exact hne h.symm

theorem Keeps.push (W : CW) (o : CObj) : Keeps W (W.push o) := by
  refine ⟨[], rfl, Nat.le_succ _, fun j hj => ⟨fun lo hi hc => ?_, fun hc => ?_, fun cs hr => ?_⟩⟩
  · left; rw [CW.get_push, if_neg (Nat.ne_of_lt hj)]
  · rw [CW.get_push, if_neg (Nat.ne_of_lt hj)]
  · exact ⟨by simp [touched], by rw [CW.get_push, if_neg (Nat.ne_of_lt hj)]; exact hr⟩

theorem Keeps.putR (W : CW) {b lo n : Nat} {cs cs' xs : List Value} (hg : W.get b = some (.row cs true)) (hp : puts cs lo xs = some cs') (hn : xs.length = n) : Keeps W (W.putR b cs' lo n) := by
  refine ⟨[.at_ b lo (lo + n)], rfl, Nat.le_refl _, fun j hj => ⟨fun l h hc => ?_, fun hc => ?_, fun cs0 hr => ?_⟩⟩
  · by_cases hb : j = b
    · subst hb
      simp [clean] at hc
      refine .inr ⟨cs, cs', true, true, hg, by rw [CW.get_putR, if_pos rfl], fun x hx hx' => ?_⟩
      simp only [puts] at hp
      split at hp
      · rename_i hle; cases hp
        rw [List.getElem?_append]
        split
        · rename_i hx2; simp at hx2; rw [List.getElem?_take, if_pos (by omega)]
        · rename_i hx2
          simp at hx2
          rw [List.getElem?_append]
          split
          · rename_i hx3; simp at hx3; omega
          · rename_i hx3; simp at hx3; rw [List.getElem?_drop]; congr 1; simp; omega
      · cases hp
    · left; rw [CW.get_putR, if_neg hb]
  · simp [cleanB] at hc
    rw [CW.get_putR, if_neg (fun e => hc e.symm)]
  · have hne : j ≠ b := fun e => by subst e; rw [hg] at hr; cases hr
    refine ⟨?_, by rw [CW.get_putR, if_neg hne]; exact hr⟩
    rintro ⟨e, he, h⟩
    simp at he; subst he
    exact hne h.symm

/-! Blocks that can't be seen. -/
structure EqH (H : Nat → Prop) (W U : CW) : Prop where
  next : W.next = U.next
  log : W.log = U.log
  get : ∀ b, ¬ H b → W.get b = U.get b

def Off (H : Nat → Prop) (W : CW) : Prop := ∀ b, H b → b < W.next ∧ (W.get b = none ∨ W.get b = some .dead)

structure Mn (H : Nat → Prop) (U W' U' : CW) : Prop where
  eq : EqH H W' U'
  off : Off H W'
  same : ∀ b, H b → U'.get b = U.get b

theorem EqH.at {H : Nat → Prop} {W U : CW} (he : EqH H W U) (ho : Off H W) {b : Nat} {ob : CObj} (hg : W.get b = some ob) (hd : ob ≠ .dead) : ¬ H b ∧ U.get b = some ob := by
  have : ¬ H b := fun h => by
    rcases (ho b h).2 with h1 | h1
    · rw [hg] at h1; cases h1
    · rw [hg] at h1; cases h1; exact hd rfl
  exact ⟨this, by rw [← he.get b this]; exact hg⟩

theorem Mn.refl {H : Nat → Prop} {W U : CW} (he : EqH H W U) (ho : Off H W) : Mn H U W U := ⟨he, ho, fun _ _ => rfl⟩
theorem Mn.trans {H : Nat → Prop} {U W' U' W'' U'' : CW} (h : Mn H U W' U') (h' : Mn H U' W'' U'') : Mn H U W'' U'' := ⟨h'.eq, h'.off, fun b hb => (h'.same b hb).trans (h.same b hb)⟩
theorem Mn.put {H : Nat → Prop} {W U : CW} (he : EqH H W U) (ho : Off H W) {b : Nat} (hb : ¬ H b) (o : CObj) : Mn H U (W.put b o) (U.put b o) := by
  refine ⟨⟨he.next, by simp [CW.put, he.log], fun j hj => by rw [CW.get_put, CW.get_put, he.get j hj]⟩, fun j hj => ?_, fun j hj => ?_⟩
  · rw [CW.get_put, if_neg (fun e : j = b => hb (e ▸ hj))]; exact ho j hj
  · rw [CW.get_put, if_neg (fun e : j = b => hb (e ▸ hj))]
theorem Mn.putR {H : Nat → Prop} {W U : CW} (he : EqH H W U) (ho : Off H W) {b : Nat} (hb : ¬ H b) (cs : List Value) (lo n : Nat) : Mn H U (W.putR b cs lo n) (U.putR b cs lo n) := by
  refine ⟨⟨he.next, by simp [CW.putR, he.log], fun j hj => by rw [CW.get_putR, CW.get_putR, he.get j hj]⟩, fun j hj => ?_, fun j hj => ?_⟩
  · rw [CW.get_putR, if_neg (fun e : j = b => hb (e ▸ hj))]; exact ho j hj
  · rw [CW.get_putR, if_neg (fun e : j = b => hb (e ▸ hj))]
theorem Mn.push {H : Nat → Prop} {W U : CW} (he : EqH H W U) (ho : Off H W) (o : CObj) : Mn H U (W.push o) (U.push o) := by
  refine ⟨⟨by simp [he.next], by simp [CW.push, he.log], fun j hj => by rw [CW.get_push, CW.get_push, he.get j hj, he.next]⟩, fun j hj => ?_, fun j hj => ?_⟩
  · have := (ho j hj).1
    rw [CW.get_push, if_neg (by omega)]
    exact ⟨by simp; omega, (ho j hj).2⟩
  · have := (ho j hj).1
    rw [CW.get_push, if_neg (by rw [← he.next]; omega)]

/-! One operation. -/
theorem cut_length {off n : Nat} {cs l : List Value} (h : cut off n cs = some l) : l.length = n := by
  unfold cut at h
  split at h
  · cases h; assumption
  · cases h

theorem cstore_both {n : Nat} {p x : Value} {W W' : CW} (hv : cstore n p x W = some W') :
    Keeps W W' ∧ ∀ H U, EqH H W U → Off H W → ∃ U', cstore n p x U = some U' ∧ Mn H U W' U' := by
  unfold cstore at hv
  split at hv
  · rename_i b off sp
    split at hv
    · rename_i cs hg
      split at hv
      · rename_i hc
        split at hv
        · rename_i cs' hput; cases hv
          refine ⟨Keeps.putR W hg hput hc.1, fun H U he ho => ?_⟩
          obtain ⟨h1, h2⟩ := he.at ho hg (by simp)
          refine ⟨U.putR b cs' off n, by simp [cstore, h2, hc.1, hput]; simpa using hc.2, Mn.putR he ho h1 cs' off n⟩
        · cases hv
      · cases hv
    · cases hv
  · cases hv

theorem srcRow_mono {size : Nat} {x : Value} {W : CW} {r : Nat × List Value} (hv : srcRow size x W = some r) {H : Nat → Prop} {U : CW} (he : EqH H W U) (ho : Off H W) : srcRow size x U = some r := by
  unfold srcRow at *
  split at hv
  · exact hv
  · rename_i b off sp n c
    split at hv
    · rename_i h0; rw [if_pos h0]; exact hv
    · rename_i h0
      rw [if_neg h0]
      split at hv
      · rename_i cs own hg
        obtain ⟨h1, h2⟩ := he.at ho hg (by simp)
        rw [h2]; exact hv
      · cases hv
  · cases hv

theorem srcRow_length {size : Nat} {x : Value} {W : CW} {n : Nat} {l : List Value} (hv : srcRow size x W = some (n, l)) : l.length = n * size := by
  unfold srcRow at hv
  (repeat' split at hv) <;> cases hv <;> first | simp | exact cut_length (by assumption)

theorem capp_both {size bytes : Nat} {s x v : Value} {W W' : CW} (hv : capp size bytes s x W = some (v, W')) :
    Keeps W W' ∧ ∀ H U, EqH H W U → Off H W → ∃ U', capp size bytes s x U = some (v, U') ∧ Mn H U W' U' := by
  unfold capp at hv
  split at hv
  · rename_i base sLen sCap n new hsrc
    have hm := fun H U he ho => srcRow_mono (H := H) (U := U) hsrc he ho
    have hlen := srcRow_length hsrc
    split at hv
    · rename_i hbd
      split at hv
      · rename_i h0
        split at hv
        · rename_i hle; cases hv
          exact ⟨Keeps.refl _, fun H U he ho => ⟨U, by simp only [capp, hm H U he ho, if_pos hbd, if_pos h0, if_pos hle], Mn.refl he ho⟩⟩
        · cases hv
      · rename_i h0
        split at hv
        · split at hv
          · rename_i hc; cases hv
            refine ⟨Keeps.push _ _, fun H U he ho => ⟨U.push (.row new true), ?_, Mn.push he ho _⟩⟩
            simp only [capp, hm H U he ho, if_pos hbd, if_neg h0, if_pos hc, he.next]
          · cases hv
        · rename_i b off sp
          split at hv
          · rename_i cs own hg
            split at hv
            · rename_i hroom
              split at hv
              · rename_i hown
                split at hv
                · rename_i cs' hput; cases hv
                  obtain ⟨rfl, hone⟩ := hown
                  refine ⟨Keeps.putR W hg hput hlen, fun H U he ho => ?_⟩
                  obtain ⟨h1, h2⟩ := he.at ho hg (by simp)
                  refine ⟨U.putR b cs' (off + sLen * size) (n * size), ?_, Mn.putR he ho h1 _ _ _⟩
                  simp only [capp, hm H U he ho, if_pos hbd, if_neg h0, h2, if_pos hroom, true_and, if_pos hone, hput]
                · cases hv
              · cases hv
            · rename_i hroom
              split at hv
              · cases hv
              · rename_i old hcut
                split at hv
                · rename_i hsp; cases hv
                  refine ⟨Keeps.push _ _, fun H U he ho => ?_⟩
                  obtain ⟨h1, h2⟩ := he.at ho hg (by simp)
                  refine ⟨U.push (.row (old ++ new) true), ?_, Mn.push he ho _⟩
                  simp only [capp, hm H U he ho, if_pos hbd, if_neg h0, h2, if_neg hroom, hcut, if_pos hsp, he.next]
                · rename_i hsp
                  split at hv
                  · rename_i hcond; cases hv
                    have hown := hcond.1
                    subst hown
                    refine ⟨(Keeps.put _ _ _ (fun cs0 h => by rw [hg] at h; cases h)).trans (Keeps.push _ _), fun H U he ho => ?_⟩
                    obtain ⟨h1, h2⟩ := he.at ho hg (by simp)
                    refine ⟨(U.put b .dead).push (.row (old ++ new) true), ?_, (Mn.put he ho h1 _).trans (Mn.push (Mn.put he ho h1 _).eq (Mn.put he ho h1 _).off _)⟩
                    simp only [capp, hm H U he ho, if_pos hbd, if_neg h0, h2, if_neg hroom, hcut, if_neg hsp, true_and, if_pos hcond.2, he.next]
                  · cases hv
          · cases hv
    · cases hv
  · cases hv

theorem ccpy_both {size : Nat} {d x v : Value} {W W' : CW} (hv : ccpy size d x W = some (v, W')) :
    Keeps W W' ∧ ∀ H U, EqH H W U → Off H W → ∃ U', ccpy size d x U = some (v, U') ∧ Mn H U W' U' := by
  unfold ccpy at hv
  split at hv
  · rename_i base dLen dc sb sLen sc
    split at hv
    · rename_i h0
      cases hv
      exact ⟨Keeps.refl _, fun H U he ho => ⟨U, by simp only [ccpy, if_pos h0], Mn.refl he ho⟩⟩
    · rename_i h0
      split at hv
      · rename_i b off sp b2 off2 sp2
        split at hv
        · rename_i cs2 own2 cs hg2 hg
          split at hv
          · rename_i l hl
            split at hv
            · rename_i cs' hput; cases hv
              have hput' : puts cs off l = some cs' := by
                split at hput
                · exact hput
                · cases hput
              refine ⟨Keeps.putR W hg hput' (cut_length hl), fun H U he ho => ?_⟩
              obtain ⟨h1, h2⟩ := he.at ho hg (by simp)
              obtain ⟨h3, h4⟩ := he.at ho hg2 (by simp)
              refine ⟨U.putR b cs' off (min sLen dLen * size), ?_, Mn.putR he ho h1 _ _ _⟩
              simp only [ccpy, if_neg h0, h2, h4, hl, hput]
            · cases hv
          · cases hv
        · cases hv
      · cases hv
  · cases hv

theorem cclr_both {z : List Value} {s : Value} {W W' : CW} (hv : cclr z s W = some W') :
    Keeps W W' ∧ ∀ H U, EqH H W U → Off H W → ∃ U', cclr z s U = some U' ∧ Mn H U W' U' := by
  unfold cclr at hv
  split at hv
  · cases hv
    exact ⟨Keeps.refl _, fun H U he ho => ⟨U, by simp only [cclr], Mn.refl he ho⟩⟩
  · rename_i b off sp n c
    split at hv
    · rename_i h0; cases hv
      exact ⟨Keeps.refl _, fun H U he ho => ⟨U, by simp only [cclr, if_pos h0], Mn.refl he ho⟩⟩
    · rename_i h0
      split at hv
      · rename_i cs hg
        split at hv
        · rename_i cs' hput; cases hv
          have hput' : puts cs off (reps n z) = some cs' := by
            split at hput
            · exact hput
            · cases hput
          have hl : ∀ n, (reps n z).length = n * z.length := by
            intro n; induction n with
            | zero => simp [reps]
            | succ n ih => simp [reps, ih, Nat.add_mul, Nat.add_comm]
          refine ⟨Keeps.putR W hg hput' (hl n), fun H U he ho => ?_⟩
          obtain ⟨h1, h2⟩ := he.at ho hg (by simp)
          refine ⟨U.putR b cs' off (n * z.length), ?_, Mn.putR he ho h1 _ _ _⟩
          simp only [cclr, if_neg h0, h2, hput]
        · cases hv
      · cases hv
  · cases hv

theorem xop_both {P : Program} {a : CAct} {o : XOp} {W W' : CW} {nx : RNext} (hv : xop P a o W = some (nx, W')) :
    Keeps W W' ∧ ∀ H U, EqH H W U → Off H W → ∃ U', xop P a o U = some (nx, U') ∧ Mn H U W' U' := by
  cases o with
  | store n p x =>
    simp only [xop] at hv
    split at hv
    · rename_i pv xv hp hx
      split at hv
      · rename_i W1 h1; cases hv
        obtain ⟨g1, g2⟩ := cstore_both h1
        refine ⟨g1, fun H U he ho => ?_⟩
        obtain ⟨U', g3, g4⟩ := g2 H U he ho
        exact ⟨U', by simp only [xop, hp, hx, g3], g4⟩
      · cases hv
    · cases hv
  | mput m k x =>
    simp only [xop] at hv
    split at hv
    · rename_i mb kk ki v hm hk hx
      split at hv
      · rename_i es hg
        split at hv
        · rename_i i u hf; cases hv
          refine ⟨Keeps.put _ _ _ (fun cs0 h => by rw [hg] at h; cases h), fun H U he ho => ?_⟩
          obtain ⟨h1, h2⟩ := he.at ho hg (by simp)
          exact ⟨_, by simp only [xop, hm, hk, hx, h2, hf], Mn.put he ho h1 _⟩
        · rename_i hf; cases hv
          refine ⟨Keeps.put _ _ _ (fun cs0 h => by rw [hg] at h; cases h), fun H U he ho => ?_⟩
          obtain ⟨h1, h2⟩ := he.at ho hg (by simp)
          exact ⟨_, by simp only [xop, hm, hk, hx, h2, hf], Mn.put he ho h1 _⟩
        · cases hv
      · cases hv
    · cases hv
  | app size bytes s x =>
    simp only [xop] at hv
    split at hv
    · rename_i sv xv hs hx
      split at hv
      · rename_i v W1 h1; cases hv
        obtain ⟨g1, g2⟩ := capp_both h1
        refine ⟨g1, fun H U he ho => ?_⟩
        obtain ⟨U', g3, g4⟩ := g2 H U he ho
        exact ⟨U', by simp only [xop, hs, hx, g3], g4⟩
      · cases hv
    · cases hv
  | cpy size d x =>
    simp only [xop] at hv
    split at hv
    · rename_i sv xv hs hx
      split at hv
      · rename_i v W1 h1; cases hv
        obtain ⟨g1, g2⟩ := ccpy_both h1
        refine ⟨g1, fun H U he ho => ?_⟩
        obtain ⟨U', g3, g4⟩ := g2 H U he ho
        exact ⟨U', by simp only [xop, hs, hx, g3], g4⟩
      · cases hv
    · cases hv
  | clr z s =>
    simp only [xop] at hv
    split at hv
    · rename_i sv hs
      split at hv
      · rename_i W1 h1; cases hv
        obtain ⟨g1, g2⟩ := cclr_both h1
        refine ⟨g1, fun H U he ho => ?_⟩
        obtain ⟨U', g3, g4⟩ := g2 H U he ho
        exact ⟨U', by simp only [xop, hs, g3], g4⟩
      · cases hv
    · cases hv
  | callF f args =>
    simp only [xop] at hv
    split at hv
    · rename_i vs hvs; cases hv
      exact ⟨Keeps.refl _, fun H U he ho => ⟨U, by simp only [xop, hvs], Mn.refl he ho⟩⟩
    · cases hv
  | call f args =>
    simp only [xop] at hv
    split at hv
    · rename_i g first cap vs hf hvs; cases hv
      exact ⟨Keeps.refl _, fun H U he ho => ⟨U, by simp only [xop, hf, hvs], Mn.refl he ho⟩⟩
    · cases hv
  | invoke name r args =>
    simp only [xop] at hv
    split at hv
    · rename_i t v vs hf hvs
      split at hv
      · rename_i f hm; cases hv
        exact ⟨Keeps.refl _, fun H U he ho => ⟨U, by simp only [xop, hf, hvs, hm], Mn.refl he ho⟩⟩
      · cases hv
    · cases hv

theorem lop_mono {a : CAct} {o : LOp} {W U : CW} {v : Value} (hv : lop a o W = some v) {H : Nat → Prop} (he : EqH H W U) (ho : Off H W) : lop a o U = some v := by
  unfold lop at *
  split at hv
  · rename_i u hu; exact hv
  · rename_i b hb
    split at hv
    · rename_i ob hg
      have hd : ob ≠ .dead := by
        intro e; subst e
        cases o <;> simp [lval] at hv
      obtain ⟨h1, h2⟩ := he.at ho hg hd
      rw [h2]; exact hv
    · cases hv
  · cases hv

/-! Runs. -/
structure Both (W : CW) (W' : CW) (f : CW → CW → Prop) : Prop where
  keeps : Keeps W W'
  mono : ∀ H U, EqH H W U → Off H W → ∃ U', f U U' ∧ Mn H U W' U'

def CBoth (call : CCall) : Prop := ∀ f args W v W', call f args W = some (v, W') → Both W W' fun U U' => call f args U = some (v, U')

section
variable {P : Program} {call : CCall} (hc : CBoth call)
include hc

theorem doX_both {a : CAct} {o : XOp} {W W' : CW} {v : Value} (hv : doX P call a o W = some (v, W')) : Both W W' fun U U' => doX P call a o U = some (v, U') := by
  unfold doX at hv
  split at hv
  · rename_i v1 W1 h1; cases hv
    obtain ⟨g1, g2⟩ := xop_both h1
    refine ⟨g1, fun H U he ho => ?_⟩
    obtain ⟨U', g3, g4⟩ := g2 H U he ho
    exact ⟨U', by simp only [doX, g3], g4⟩
  · rename_i f args W1 h1
    obtain ⟨g1, g2⟩ := xop_both h1
    have h2 := hc _ _ _ _ _ hv
    refine ⟨g1.trans h2.keeps, fun H U he ho => ?_⟩
    obtain ⟨U1, g3, g4⟩ := g2 H U he ho
    obtain ⟨U', g5, g6⟩ := h2.mono H U1 g4.eq g4.off
    exact ⟨U', by simp only [doX, g3, g5], g4.trans g6⟩
  · cases hv

theorem doOp_both {a : CAct} {o : ROp} {W W' : CW} {v : Value} (hv : doOp P call a o W = some (v, W')) : Both W W' fun U U' => doOp P call a o U = some (v, U') := by
  cases o with
  | p o =>
    simp only [doOp] at hv
    split at hv
    · rename_i v1 h1; cases hv
      exact ⟨Keeps.refl _, fun H U he ho => ⟨U, by simp only [doOp, h1], Mn.refl he ho⟩⟩
    · cases hv
  | l o =>
    simp only [doOp] at hv
    split at hv
    · rename_i v1 h1; cases hv
      exact ⟨Keeps.refl _, fun H U he ho => ⟨U, by simp only [doOp, lop_mono h1 he ho], Mn.refl he ho⟩⟩
    · cases hv
  | a o =>
    simp only [doOp] at hv
    split at hv
    · rename_i ob h1; cases hv
      exact ⟨Keeps.push _ _, fun H U he ho => ⟨U.push ob, by simp only [doOp, h1, he.next], Mn.push he ho ob⟩⟩
    · cases hv
  | x o => exact doX_both hc hv

theorem rsteps_both : ∀ (l : List RStep) (a : CAct) (W : CW) (a' : CAct) (W' : CW), rsteps P call l a W = some (a', W') → Both W W' fun U U' => rsteps P call l a U = some (a', U')
  | [], a, W, a', W', hv => by
    simp only [rsteps, Option.some.injEq, Prod.mk.injEq] at hv
    obtain ⟨rfl, rfl⟩ := hv
    exact ⟨Keeps.refl _, fun H U he ho => ⟨U, by simp only [rsteps], Mn.refl he ho⟩⟩
  | s :: l, a, W, a', W', hv => by
    simp only [rsteps] at hv
    split at hv
    · rename_i hw
      split at hv
      · rename_i v W1 h1
        have k1 := doOp_both hc h1
        have k2 := rsteps_both l _ _ _ _ hv
        refine ⟨k1.keeps.trans k2.keeps, fun H U he ho => ?_⟩
        obtain ⟨U1, g3, g4⟩ := k1.mono H U he ho
        obtain ⟨U', g5, g6⟩ := k2.mono H U1 g4.eq g4.off
        exact ⟨U', by simp only [rsteps, hw, g3, g5], g4.trans g6⟩
      · cases hv
    · rename_i hw
      have k2 := rsteps_both l _ _ _ _ hv
      refine ⟨k2.keeps, fun H U he ho => ?_⟩
      obtain ⟨U', g5, g6⟩ := k2.mono H U he ho
      exact ⟨U', by simp only [rsteps, hw, g5], g6⟩
    · cases hv

end

theorem CW.get_bear (W : CW) (b j : Nat) (o : CObj) : (W.bear b o).get j = if j = b then some o else W.get j := Tr.get_set _ _ _ _
@[simp] theorem CW.next_bear (W : CW) (b : Nat) (o : CObj) : (W.bear b o).next = W.next := rfl
@[simp] theorem CW.log_bear (W : CW) (b : Nat) (o : CObj) : (W.bear b o).log = W.log := rfl
@[simp] theorem CW.get_relog (W : CW) (l : List LE) (b : Nat) : (W.relog l).get b = W.get b := rfl
@[simp] theorem CW.next_relog (W : CW) (l : List LE) : (W.relog l).next = W.next := rfl
@[simp] theorem CW.log_relog (W : CW) (l : List LE) : (W.relog l).log = l := rfl
@[simp] theorem CW.get_reserve (W : CW) (k b : Nat) : (W.reserve k).get b = W.get b := rfl
@[simp] theorem CW.next_reserve (W : CW) (k : Nat) : (W.reserve k).next = W.next + k := rfl
@[simp] theorem CW.log_reserve (W : CW) (k : Nat) : (W.reserve k).log = W.log := rfl

theorem maskL_get (W : CW) : ∀ (l : List Nat) (j : Nat), (maskL W l).get j = if j ∈ l then some .dead else W.get j
  | [], j => by simp [maskL]
  | b :: l, j => by
    rw [maskL, CW.get_bear, maskL_get W l j]
    by_cases h : j = b <;> simp [h]
@[simp] theorem maskL_next (W : CW) : ∀ (l : List Nat), (maskL W l).next = W.next
  | [] => rfl
  | b :: l => by rw [maskL, CW.next_bear, maskL_next W l]
@[simp] theorem maskL_log (W : CW) : ∀ (l : List Nat), (maskL W l).log = W.log
  | [] => rfl
  | b :: l => by rw [maskL, CW.log_bear, maskL_log W l]
theorem unmaskL_get (W0 W : CW) : ∀ (l : List Nat) (j : Nat), (unmaskL W0 W l).get j = if j ∈ l then some ((W0.get j).getD .dead) else W.get j
  | [], j => by simp [unmaskL]
  | b :: l, j => by
    rw [unmaskL, CW.get_bear, unmaskL_get W0 W l j]
    by_cases h : j = b <;> simp [h]
@[simp] theorem unmaskL_next (W0 W : CW) : ∀ (l : List Nat), (unmaskL W0 W l).next = W.next
  | [] => rfl
  | b :: l => by rw [unmaskL, CW.next_bear, unmaskL_next W0 W l]

theorem masks_mem {pre : Nat} {b : Nat} : ∀ (l : List Rec) (i : Nat), b ∈ masks pre l i ↔ ∃ k, l[k]? = some (.a b) ∧ pre.testBit (i + k) = false
  | [], i => by simp [masks]
  | r :: l, i => by
    have ih := masks_mem (pre := pre) (b := b) l (i + 1)
    have key : (∃ k, (r :: l)[k]? = some (.a b) ∧ pre.testBit (i + k) = false) ↔ (r = .a b ∧ pre.testBit i = false) ∨ (∃ k, l[k]? = some (.a b) ∧ pre.testBit (i + 1 + k) = false) := by
      constructor
      · rintro ⟨k, h1, h2⟩
        cases k with
        | zero => exact .inl ⟨by simpa using h1, h2⟩
        | succ k => exact .inr ⟨k, by simpa using h1, by rw [show i + 1 + k = i + (k + 1) by omega]; exact h2⟩
      · rintro (⟨h1, h2⟩ | ⟨k, h1, h2⟩)
        · exact ⟨0, by simp [h1], h2⟩
        · exact ⟨k + 1, by simpa using h1, by rw [show i + (k + 1) = i + 1 + k by omega]; exact h2⟩
    rw [key]
    cases r with
    | a b' =>
      simp only [masks]
      split
      · rename_i ht
        rw [ih]
        constructor
        · exact .inr
        · rintro (⟨h1, h2⟩ | h1)
          · rw [ht] at h2; cases h2
          · exact h1
      · rename_i ht
        rw [List.mem_cons, ih]
        constructor
        · rintro (rfl | h1)
          · exact .inl ⟨rfl, by simpa using ht⟩
          · exact .inr h1
        · rintro (⟨h1, h2⟩ | h1)
          · cases h1; exact .inl rfl
          · exact .inr h1
    | _ => simp only [masks]; rw [ih]; simp

/-- The records of a drawn region name blocks that were set aside. -/
def RecsIn (base : Nat) (recs : List Rec) : Prop := ∀ (k b : Nat), recs[k]? = some (.a b) → base ≤ b

section
variable {P : Program} {call : CCall} (hc : CBoth call)
include hc

theorem dstep_both {base : Nat} {s : RStep} {recs : List Rec} {a : CAct} {W W' : CW} {v : Value} {rc : Rec} (hr : RecsIn base recs) (hv : dstep P call base s recs a W = some (v, W', rc)) :
    (∃ nl, W'.log = nl ++ W.log ∧ W.next ≤ W'.next ∧ ∀ b, b < base → b < W.next → (∀ lo hi, clean nl b lo hi = true → AG (W.get b) (W'.get b) lo hi) ∧ (cleanB nl b = true → W'.get b = W.get b) ∧ (∀ cs, W.get b = some (.row cs false) → ¬ touched nl b ∧ W'.get b = some (.row cs false))) ∧
    RecsIn base (recs ++ [rc]) ∧
    ∀ H U, (∀ b, H b → b < base) → EqH H W U → Off H W → ∃ U', dstep P call base s recs a U = some (v, U', rc) ∧ Mn H U W' U' := by
  have hsame : (∃ nl, W.log = nl ++ W.log ∧ W.next ≤ W.next ∧ ∀ b, b < base → b < W.next → (∀ lo hi, clean nl b lo hi = true → AG (W.get b) (W.get b) lo hi) ∧ (cleanB nl b = true → W.get b = W.get b) ∧ (∀ cs, W.get b = some (.row cs false) → ¬ touched nl b ∧ W.get b = some (.row cs false))) :=
    ⟨[], rfl, Nat.le_refl _, fun b _ _ => ⟨fun _ _ _ => AG.refl _ _ _, fun _ => rfl, fun cs h => ⟨by simp [touched], h⟩⟩⟩
  have hrec : ∀ rc, (∀ b, rc = .a b → base ≤ b) → RecsIn base (recs ++ [rc]) := by
    intro rc h k b hk
    rw [List.getElem?_append] at hk
    split at hk
    · exact hr k b hk
    · have : k - recs.length = 0 := by
        by_cases hq : k - recs.length = 0
        · exact hq
        · rw [List.getElem?_eq_none (by simp; omega)] at hk; cases hk
      rw [this] at hk
      simp at hk
      exact h b hk
  unfold dstep at hv
  split at hv
  · cases hv
  · rename_i hw; cases hv
    exact ⟨hsame, hrec _ (fun b h => by cases h), fun H U hH he ho => ⟨U, by simp only [dstep, hw], Mn.refl he ho⟩⟩
  · rename_i hw
    split at hv
    · rename_i o hop
      split at hv
      · rename_i v1 h1; cases hv
        exact ⟨hsame, hrec _ (fun b h => by cases h), fun H U hH he ho => ⟨U, by simp only [dstep, hw, hop, h1], Mn.refl he ho⟩⟩
      · cases hv
    · rename_i o hop
      split at hv
      · rename_i v1 h1; cases hv
        exact ⟨hsame, hrec _ (fun b h => by cases h), fun H U hH he ho => ⟨U, by simp only [dstep, hw, hop, h1], Mn.refl he ho⟩⟩
      · rename_i b hb
        split at hv
        · cases hv
        · rename_i ob hg
          split at hv
          · cases hv
          · rename_i v1 hl
            have hd : ob ≠ .dead := by
              intro e; subst e
              cases o <;> simp [lval] at hl
            split at hv
            · rename_i lo hi hsp
              split at hv
              · rename_i hok; cases hv
                exact ⟨hsame, hrec _ (fun b h => by cases h), fun H U hH he ho => ⟨U, by simp only [dstep, hw, hop, hb, (he.at ho hg hd).2, hl, hsp, if_pos hok], Mn.refl he ho⟩⟩
              · cases hv
            · rename_i hsp
              split at hv
              · rename_i hok; cases hv
                exact ⟨hsame, hrec _ (fun b h => by cases h), fun H U hH he ho => ⟨U, by simp only [dstep, hw, hop, hb, (he.at ho hg hd).2, hl, hsp, if_pos hok], Mn.refl he ho⟩⟩
              · cases hv
      · cases hv
    · rename_i o hop
      split at hv
      · rename_i ob h1; cases hv
        refine ⟨⟨[], rfl, Nat.le_refl _, fun b hb hb2 => ?_⟩, hrec _ (fun b h => by cases h; omega), fun H U hH he ho => ⟨U.bear (base + recs.length) ob, by simp only [dstep, hw, hop, h1], ?_⟩⟩
        · have : (W.bear (base + recs.length) ob).get b = W.get b := by rw [CW.get_bear, if_neg (by omega)]
          rw [this]
          exact ⟨fun _ _ _ => AG.refl _ _ _, fun _ => rfl, fun cs h => ⟨by simp [touched], h⟩⟩
        · refine ⟨⟨he.next, he.log, fun j hj => by rw [CW.get_bear, CW.get_bear, he.get j hj]⟩, fun j hj => ?_, fun j hj => ?_⟩
          · rw [CW.get_bear, if_neg (by have := hH j hj; omega)]; exact ho j hj
          · rw [CW.get_bear, if_neg (by have := hH j hj; omega)]
      · cases hv
    · rename_i o hop
      split at hv
      · rename_i v1 W1 h1
        split at hv
        · rename_i hok; cases hv
          have hm : ∀ b, b ∈ masks s.pre recs 0 → base ≤ b := by
            intro b hb
            obtain ⟨k, h2, _⟩ := (masks_mem recs 0).1 hb
            exact hr k b h2
          have k1 := doX_both hc h1
          obtain ⟨nl, g1, g2, g3⟩ := k1.keeps
          refine ⟨⟨W1.log, rfl, by simpa using g2, fun b hb hb2 => ?_⟩, hrec _ (fun b h => by cases h), fun H U hH he ho => ?_⟩
          · have e1 : nl = W1.log := by simpa using g1.symm
            subst e1
            have hnm : b ∉ masks s.pre recs 0 := fun h => by have := hm b h; omega
            have e2 : ((maskL W (masks s.pre recs 0)).relog []).get b = W.get b := by rw [CW.get_relog, maskL_get, if_neg hnm]
            have e3 : ((unmaskL W W1 (masks s.pre recs 0)).relog (W1.log ++ W.log)).get b = W1.get b := by rw [CW.get_relog, unmaskL_get, if_neg hnm]
            have := g3 b (by simpa using hb2)
            rw [e2] at this
            rw [e3]
            exact this
          · have hnm : ∀ j, H j → j ∉ masks s.pre recs 0 := fun j hj h => by have := hm j h; have := hH j hj; omega
            obtain ⟨U1, g5, g6⟩ := k1.mono H ((maskL U (masks s.pre recs 0)).relog []) ⟨by simp [he.next], rfl, fun j hj => by simp only [CW.get_relog, maskL_get, he.get j hj]⟩
              (fun j hj => by simp only [CW.get_relog, maskL_get, if_neg (hnm j hj), CW.next_relog, maskL_next]; exact ho j hj)
            refine ⟨(unmaskL U U1 (masks s.pre recs 0)).relog (U1.log ++ U.log), ?_, ?_⟩
            · simp only [dstep, hw, hop, g5]
              rw [← g6.eq.log, if_pos hok]
            · refine ⟨⟨by simp [g6.eq.next], by simp [g6.eq.log, he.log], fun j hj => ?_⟩, fun j hj => ?_, fun j hj => ?_⟩
              · simp only [CW.get_relog, unmaskL_get, g6.eq.get j hj, he.get j hj]
              · simp only [CW.get_relog, unmaskL_get, if_neg (hnm j hj), CW.next_relog, unmaskL_next]
                exact g6.off j hj
              · simp only [CW.get_relog, unmaskL_get, if_neg (hnm j hj)]
                rw [g6.same j hj]
                simp only [CW.get_relog, maskL_get, if_neg (hnm j hj)]
        · cases hv
      · cases hv

theorem rdraw_both {base : Nat} : ∀ (l : List RStep) (recs : List Rec) (a : CAct) (W : CW) (a' : CAct) (W' : CW), RecsIn base recs → rdraw P call base l recs a W = some (a', W') →
    (∃ nl, W'.log = nl ++ W.log ∧ W.next ≤ W'.next ∧ ∀ b, b < base → b < W.next → (∀ lo hi, clean nl b lo hi = true → AG (W.get b) (W'.get b) lo hi) ∧ (cleanB nl b = true → W'.get b = W.get b) ∧ (∀ cs, W.get b = some (.row cs false) → ¬ touched nl b ∧ W'.get b = some (.row cs false))) ∧
    ∀ H U, (∀ b, H b → b < base) → EqH H W U → Off H W → ∃ U', rdraw P call base l recs a U = some (a', U') ∧ Mn H U W' U'
  | [], recs, a, W, a', W', hr, hv => by
    simp only [rdraw, Option.some.injEq, Prod.mk.injEq] at hv
    obtain ⟨rfl, rfl⟩ := hv
    exact ⟨⟨[], rfl, Nat.le_refl _, fun b _ _ => ⟨fun _ _ _ => AG.refl _ _ _, fun _ => rfl, fun cs h => ⟨by simp [touched], h⟩⟩⟩, fun H U hH he ho => ⟨U, by simp only [rdraw], Mn.refl he ho⟩⟩
  | s :: l, recs, a, W, a', W', hr, hv => by
    simp only [rdraw] at hv
    split at hv
    · rename_i v W1 rc h1
      obtain ⟨⟨nl, p1, p2, p3⟩, k2, k3⟩ := dstep_both hc hr h1
      obtain ⟨⟨nl', q1, q2, q3⟩, k5⟩ := rdraw_both l _ _ _ _ _ k2 hv
      refine ⟨⟨nl' ++ nl, by rw [q1, p1, List.append_assoc], Nat.le_trans p2 q2, fun b hb hb2 => ⟨fun lo hi hcl => ?_, fun hcl => ?_, fun cs hr => ?_⟩⟩, fun H U hH he ho => ?_⟩
      · rw [clean_append, Bool.and_eq_true] at hcl
        exact ((p3 b hb hb2).1 lo hi hcl.2).trans ((q3 b hb (by omega)).1 lo hi hcl.1)
      · rw [cleanB_append, Bool.and_eq_true] at hcl
        exact ((q3 b hb (by omega)).2.1 hcl.1).trans ((p3 b hb hb2).2.1 hcl.2)
      · obtain ⟨k6, k7⟩ := (p3 b hb hb2).2.2 cs hr
        obtain ⟨k8, k9⟩ := (q3 b hb (by omega)).2.2 cs k7
        exact ⟨fun h => (touched_append.1 h).elim k8 k6, k9⟩
      · obtain ⟨U1, g3, g4⟩ := k3 H U hH he ho
        obtain ⟨U', g5, g6⟩ := k5 H U1 hH g4.eq g4.off
        exact ⟨U', by simp only [rdraw, g3, g5], g4.trans g6⟩
    · cases hv

theorem rexec_both : ∀ (n : Nat) (c : RCode) (a : CAct) (W : CW) (e : CExit) (a' : CAct) (W' : CW), rexec P call n c a W = some (e, a', W') → Both W W' fun U U' => rexec P call n c a U = some (e, a', U') := by
  intro n
  induction n with
  | zero => intro c a W e a' W' hv; cases hv
  | succ n ih =>
    intro c a W e a' W' hv
    cases c with
    | skip => simp only [rexec] at hv; cases hv; exact ⟨Keeps.refl _, fun H U he ho => ⟨U, by simp only [rexec], Mn.refl he ho⟩⟩
    | exit id => simp only [rexec] at hv; cases hv; exact ⟨Keeps.refl _, fun H U he ho => ⟨U, by simp only [rexec], Mn.refl he ho⟩⟩
    | ret => simp only [rexec] at hv; cases hv; exact ⟨Keeps.refl _, fun H U he ho => ⟨U, by simp only [rexec], Mn.refl he ho⟩⟩
    | region ops =>
      simp only [rexec] at hv
      split at hv
      · rename_i a1 W1 h1; cases hv
        have k := rsteps_both hc _ _ _ _ _ h1
        refine ⟨k.keeps, fun H U he ho => ?_⟩
        obtain ⟨U', g1, g2⟩ := k.mono H U he ho
        exact ⟨U', by simp only [rexec, g1], g2⟩
      · cases hv
    | draw ops =>
      simp only [rexec] at hv
      split at hv
      · rename_i a1 W1 h1; cases hv
        obtain ⟨⟨nl, k1, k2, k3⟩, k4⟩ := rdraw_both hc (base := W.next) ops [] a (W.reserve ops.length) _ _ (fun k b hk => by simp at hk) h1
        refine ⟨⟨nl, k1, by simp at k2; omega, fun b hb => k3 b hb (by simp; omega)⟩, fun H U he ho => ?_⟩
        obtain ⟨U', g1, g2⟩ := k4 H (U.reserve ops.length) (fun b hb => (ho b hb).1) ⟨by simp [he.next], by simp [he.log], fun b hb => by simp [he.get b hb]⟩ (fun b hb => ⟨by have := (ho b hb).1; simp; omega, (ho b hb).2⟩)
        exact ⟨U', by simp only [rexec, ← he.next, g1], ⟨g2.eq, g2.off, fun b hb => g2.same b hb⟩⟩
      · cases hv
    | seq x y =>
      simp only [rexec] at hv
      split at hv
      · rename_i a1 W1 h1
        have k1 := ih _ _ _ _ _ _ h1
        have k2 := ih _ _ _ _ _ _ hv
        refine ⟨k1.keeps.trans k2.keeps, fun H U he ho => ?_⟩
        obtain ⟨U1, g1, g2⟩ := k1.mono H U he ho
        obtain ⟨U', g3, g4⟩ := k2.mono H U1 g2.eq g2.off
        exact ⟨U', by simp only [rexec, g1, g3], g2.trans g4⟩
      · rename_i hno
        have k1 := ih _ _ _ _ _ _ hv
        refine ⟨k1.keeps, fun H U he ho => ?_⟩
        obtain ⟨U1, g1, g2⟩ := k1.mono H U he ho
        refine ⟨U1, ?_, g2⟩
        simp only [rexec, g1]
        split
        · rename_i heq; cases heq
          exact absurd hv (hno _ _)
        · rfl
    | cond o x y =>
      simp only [rexec] at hv
      split at hv
      · rename_i ho1
        have k1 := ih _ _ _ _ _ _ hv
        refine ⟨k1.keeps, fun H U he ho => ?_⟩
        obtain ⟨U1, g1, g2⟩ := k1.mono H U he ho
        exact ⟨U1, by simp only [rexec, ho1, g1], g2⟩
      · rename_i ho1
        have k1 := ih _ _ _ _ _ _ hv
        refine ⟨k1.keeps, fun H U he ho => ?_⟩
        obtain ⟨U1, g1, g2⟩ := k1.mono H U he ho
        exact ⟨U1, by simp only [rexec, ho1, g1], g2⟩
      · cases hv
    | block id b =>
      simp only [rexec] at hv
      split at hv
      · rename_i i a1 W1 h1
        have k1 := ih _ _ _ _ _ _ h1
        split at hv
        · rename_i hi; cases hv
          refine ⟨k1.keeps, fun H U he ho => ?_⟩
          obtain ⟨U1, g1, g2⟩ := k1.mono H U he ho
          exact ⟨U1, by simp only [rexec, g1, if_pos hi], g2⟩
        · rename_i hi; cases hv
          refine ⟨k1.keeps, fun H U he ho => ?_⟩
          obtain ⟨U1, g1, g2⟩ := k1.mono H U he ho
          exact ⟨U1, by simp only [rexec, g1, if_neg hi], g2⟩
      · rename_i hno
        have k1 := ih _ _ _ _ _ _ hv
        refine ⟨k1.keeps, fun H U he ho => ?_⟩
        obtain ⟨U1, g1, g2⟩ := k1.mono H U he ho
        refine ⟨U1, ?_, g2⟩
        simp only [rexec, g1]
        split
        · rename_i heq; cases heq
          exact absurd hv (hno _ _ _)
        · rfl
    | loop b =>
      simp only [rexec] at hv
      split at hv
      · rename_i a1 W1 h1
        have k1 := ih _ _ _ _ _ _ h1
        have k2 := ih _ _ _ _ _ _ hv
        refine ⟨k1.keeps.trans k2.keeps, fun H U he ho => ?_⟩
        obtain ⟨U1, g1, g2⟩ := k1.mono H U he ho
        obtain ⟨U', g3, g4⟩ := k2.mono H U1 g2.eq g2.off
        exact ⟨U', by simp only [rexec, g1, g3], g2.trans g4⟩
      · rename_i hno
        have k1 := ih _ _ _ _ _ _ hv
        refine ⟨k1.keeps, fun H U he ho => ?_⟩
        obtain ⟨U1, g1, g2⟩ := k1.mono H U he ho
        refine ⟨U1, ?_, g2⟩
        simp only [rexec, g1]
        split
        · rename_i heq; cases heq
          exact absurd hv (hno _ _)
        · rfl

end

theorem result1_mono {a : CAct} {W U : CW} {v : Value} {q : Nat × Option (Option Nat)} (hv : result1 a W q = some v) {H : Nat → Prop} (he : EqH H W U) (ho : Off H W) : result1 a U q = some v := by
  obtain ⟨t, k⟩ := q
  cases k with
  | none => exact hv
  | some k =>
    simp only [result1] at *
    split at hv
    · rename_i b off sp hg
      split at hv
      · rename_i cs own hr
        rw [(he.at ho hr (by simp)).2]
        exact hv
      · cases hv
    · cases hv

theorem resultsL_mono {a : CAct} {W U : CW} : ∀ {l : List (Nat × Option (Option Nat))} {vs : List Value}, resultsL a W l = some vs → ∀ {H : Nat → Prop}, EqH H W U → Off H W → resultsL a U l = some vs
  | [], vs, hv, H, he, ho => hv
  | q :: l, vs, hv, H, he, ho => by
    simp only [resultsL] at *
    split at hv
    · rename_i v vs' h1 h2
      rw [result1_mono h1 he ho, resultsL_mono h2 he ho]
      exact hv
    · cases hv

theorem sortV_both {v : Value} {W W' : CW} (hv : sortV v W = some W') : Both W W' fun U U' => sortV v U = some U' := by
  unfold sortV at hv
  split at hv
  · rename_i q n c
    split at hv
    · rename_i h0; cases hv
      exact ⟨Keeps.refl _, fun H U he ho => ⟨U, by simp only [sortV, if_pos h0], Mn.refl he ho⟩⟩
    · rename_i h0
      split at hv
      · rename_i b off sp
        split at hv
        · rename_i cs hg
          split at hv
          · rename_i l hl
            split at hv
            · rename_i zs hz
              split at hv
              · rename_i cs' hput
                split at hv
                · rename_i hn; cases hv
                  refine ⟨Keeps.putR W hg hput ?_, fun H U he ho => ?_⟩
                  · have h1 := cut_length hl
                    have h2 : ∀ (l : List Value) (zs : List Int), intsOf l = some zs → zs.length = l.length := by
                      intro l
                      induction l with
                      | nil => intro zs h; cases h; rfl
                      | cons u l ih =>
                        intro zs h
                        unfold intsOf at h
                        split at h
                        · rename_i heq; cases heq
                        · rename_i heq
                          cases heq
                          split at h
                          · rename_i r hr; cases h; simp [ih _ hr]
                          · cases h
                        · cases h
                    simp [h2 _ _ hz, h1]
                  · obtain ⟨h1, h2⟩ := he.at ho hg (by simp)
                    refine ⟨U.putR b cs' off n, ?_, Mn.putR he ho h1 _ _ _⟩
                    simp only [sortV, if_neg h0, h2, hl, hz, hput, if_pos hn]
                · cases hv
              · cases hv
            · cases hv
          · cases hv
        · cases hv
      · cases hv
  · cases hv

theorem ask_both {orc : Orc} {f : FuncId} {args : List Value} {W W' : CW} {v : Value} (hv : ask orc f args W = some (some (v, W'))) : Both W W' fun U U' => ask orc f args U = some (some (v, U')) := by
  unfold ask at hv
  split at hv
  · rename_i ho; cases hv
    exact ⟨Keeps.refl _, fun H U he hf => ⟨U, by simp only [ask, ho], Mn.refl he hf⟩⟩
  · rename_i u ho
    simp only [Option.some.injEq] at hv
    unfold sortR at hv
    split at hv
    · rename_i W1 h1; cases hv
      obtain ⟨g1, g2⟩ := sortV_both h1
      refine ⟨g1, fun H U he hf => ?_⟩
      obtain ⟨U', k1, k2⟩ := g2 H U he hf
      exact ⟨U', by simp only [ask, ho, k1, sortR], k2⟩
    · cases hv
  · cases hv

theorem ask_none {orc : Orc} {f : FuncId} {args : List Value} {W : CW} (h : ask orc f args W = none) (U : CW) : ask orc f args U = none := by
  unfold ask at h ⊢
  split at h
  · cases h
  · cases h
  · rfl

theorem rcall_both (P : Program) (orc : Orc) : ∀ n, CBoth (rcall P orc n) := by
  intro n
  induction n with
  | zero => intro f args W v W' hv; cases hv
  | succ n ih =>
    intro f args W v W' hv
    simp only [rcall] at hv
    split at hv
    · rename_i q hq
      subst hv
      obtain ⟨g1, g2⟩ := ask_both hq
      refine ⟨g1, fun H U he ho => ?_⟩
      obtain ⟨U', k1, k2⟩ := g2 H U he ho
      exact ⟨U', by simp only [rcall, k1], k2⟩
    · rename_i horc
      split at hv
      · cases hv
      · rename_i R hR
        split at hv
        · cases hv
        · rename_i e a1 W1 hno h1
          split at hv
          · rename_i vs h2; cases hv
            have k := rexec_both ih _ _ _ _ _ _ _ h1
            refine ⟨k.keeps, fun H U he ho => ?_⟩
            obtain ⟨U', g1, g2⟩ := k.mono H U he ho
            refine ⟨U', ?_, g2⟩
            have g3 := resultsL_mono h2 g2.eq g2.off
            cases e with
            | exit id => first | exact (hno _ _ rfl).elim | exact (hno _ rfl).elim | exact (hno _ _ _ rfl).elim | exact (hno id rfl).elim
            | normal => simp only [rcall, ask_none horc, hR, g1, g3]
            | ret => simp only [rcall, ask_none horc, hR, g1, g3]
          · cases hv
        · cases hv

end Go.Can
