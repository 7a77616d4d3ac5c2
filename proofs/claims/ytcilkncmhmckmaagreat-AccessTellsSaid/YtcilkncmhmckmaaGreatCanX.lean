/-
  Canonical code made short: the short code, what it does, and that the code it was made of does the same.
-/
import Derived.Test.YtcilkncmhmckmaaGreatCanW
namespace Go.Can
open Go
set_option linter.all false

inductive SN where
  | seg (musts : List EX) (outs : List (Nat × EX))
  | raw (s : RStep)

inductive SCode where
  | skip
  | segs (l : List SN)
  | quiet (k : Nat) (musts : List EX) (outs : List (Nat × EX))
  | draw (ops : List RStep)
  | seq (a b : SCode)
  | cond (c : RX) (a b : SCode)
  | block (id : Nat) (b : SCode)
  | loop (norm : List Nat) (b : SCode)
  | exit (id : Nat)
  | ret

def mustsOk (P : Program) (a : CAct) (W : CW) : List EX → Bool
  | [] => true
  | e :: l => (e.ev P a W).isSome && mustsOk P a W l

def outF (P : Program) (a : CAct) (W : CW) : List (Nat × EX) → CAct
  | [] => .nil
  | (t, e) :: l => match e.ev P a W with
    | some v => .cons t v (outF P a W l)
    | none => outF P a W l

def keepF (a : CAct) : List Nat → CAct
  | [] => .nil
  | t :: l => match a.get t with
    | some v => .cons t v (keepF a l)
    | none => keepF a l

def snode (P : Program) (call : CCall) : SN → CAct → CW → Option (CAct × CW)
  | .seg ms outs, a, W => if mustsOk P a W ms = true then some (outF P a W outs, W) else none
  | .raw s, a, W => rsteps P call [s] a W

def snodes (P : Program) (call : CCall) : List SN → CAct → CW → Option (CAct × CW)
  | [], a, W => some (a, W)
  | s :: l, a, W => match snode P call s a W with
    | some (a, W) => snodes P call l a W
    | none => none

def sexec (P : Program) (call : CCall) : Nat → SCode → CAct → CW → Option (CExit × CAct × CW)
  | 0, _, _, _ => none
  | n + 1, c, a, W =>
    match c with
    | .skip => some (.normal, a, W)
    | .segs l => match snodes P call l a W with
      | some (a, W) => some (.normal, a, W)
      | none => none
    | .quiet k ms outs => if mustsOk P a W ms = true then some (.normal, outF P a W outs, W.reserve k) else none
    | .draw ops => match rdraw P call W.next ops [] a (W.reserve ops.length) with
      | some (a, W) => some (.normal, a, W)
      | none => none
    | .seq x y => match sexec P call n x a W with
      | some (.normal, a, W) => sexec P call n y a W
      | r => r
    | .cond o x y => match o.ev a with
      | some (.bool true) => sexec P call n x a W
      | some (.bool false) => sexec P call n y a W
      | _ => none
    | .block id b => match sexec P call n b a W with
      | some (.exit i, a, W) => if i = id then some (.normal, a, W) else some (.exit i, a, W)
      | r => r
    | .loop norm b => match sexec P call n b a W with
      | some (.normal, a, W) => sexec P call n (.loop norm b) (keepF a norm) W
      | r => r
    | .exit id => some (.exit id, a, W)
    | .ret => some (.ret, a, W)

/-! The optimiser. The lists of temporaries that are worth keeping come from outside; nothing hangs on their being right. -/
def outsOf (σ : Env) : List Nat → List (Nat × EX)
  | [] => []
  | t :: l => (t, match σ.get t with | none => .t t | some en => fullE en.ch en.e) :: outsOf σ l

def envPut (σ : Env) (d : Option Nat) (en : En) : Env :=
  match d with
  | some d => σ.set d en
  | none => σ

def headL : List (List Nat) → List Nat
  | [] => []
  | x :: _ => x

def tailL : List (List Nat) → List (List Nat)
  | [] => []
  | _ :: l => l

def segGo (σ : Env) (i : Nat) (ms : List EX) : List RStep → List (List Nat) → List SN × List (List Nat)
  | [], L => ([.seg ms.reverse (outsOf σ (headL L))], tailL L)
  | s :: r, L => match envStep σ s with
    | some (ch, e) => segGo (envPut σ s.dst ⟨ch, 2 * i + 1, e⟩) (i + 1) (fullE ch e :: ms) r L
    | none => match segGo .nil (i + 1) [] r (tailL L) with
      | (l, L') => (.seg ms.reverse (outsOf σ (headL L)) :: .raw s :: l, L')

def segAll (σ : Env) (i : Nat) (ms : List EX) : List RStep → Option (Env × List EX)
  | [] => some (σ, ms)
  | s :: r => match envStep σ s with
    | some (ch, e) => segAll (envPut σ s.dst ⟨ch, 2 * i + 1, e⟩) (i + 1) (fullE ch e :: ms) r
    | none => none

def opt : RCode → List (List Nat) → SCode × List (List Nat)
  | .skip, L => (.skip, L)
  | .region ops, L => match segGo .nil 0 [] ops L with
    | (l, L') => (.segs l, L')
  | .draw ops, L => match segAll .nil 0 [] ops with
    | some (σ, ms) => (.quiet ops.length ms.reverse (outsOf σ (headL L)), tailL L)
    | none => (.draw ops, L)
  | .seq a b, L => match opt a L with
    | (a', L1) => match opt b L1 with
      | (b', L2) => (.seq a' b', L2)
  | .cond c a b, L => match opt a L with
    | (a', L1) => match opt b L1 with
      | (b', L2) => (.cond c a' b', L2)
  | .block id b, L => match opt b L with
    | (b', L1) => (.block id b', L1)
  | .loop b, L => match opt b (tailL L) with
    | (b', L1) => (.loop (headL L) b', L1)
  | .exit id, L => (.exit id, L)
  | .ret, L => (.ret, L)

/-! It is right. -/
theorem mustsOk_mem {P : Program} {a : CAct} {W : CW} : ∀ {l : List EX}, mustsOk P a W l = true → ∀ e ∈ l, ∃ v, e.ev P a W = some v
  | [], _, e, he => by simp at he
  | x :: l, h, e, he => by
    simp only [mustsOk, Bool.and_eq_true] at h
    rcases List.mem_cons.1 he with rfl | he
    · exact Option.isSome_iff_exists.1 h.1
    · exact mustsOk_mem h.2 e he

theorem keepF_sub (a : CAct) : ∀ (l : List Nat), Sub (keepF a l) a
  | [], t, v, h => by simp [keepF] at h
  | d :: l, t, v, h => by
    simp only [keepF] at h
    split at h
    · rename_i u hu
      rw [Tr.get_cons] at h
      split at h
      · rename_i e; rw [e, hu]; exact h
      · exact keepF_sub a l t v h
    · exact keepF_sub a l t v h

theorem outF_sub {P : Program} {s a0 a : CAct} {W : CW} {D : Nat → EX} {σ : Env} (h : EnvOk P a0 a W D σ) (hs : Sub s a0) : ∀ (l : List Nat), Sub (outF P s W (outsOf σ l)) a
  | [], t, v, hv => by simp [outsOf, outF] at hv
  | d :: l, t, v, hv => by
    have ih := outF_sub h hs l
    simp only [outsOf, outF] at hv
    split at hv
    · rename_i u hu
      rw [Tr.get_cons] at hv
      split at hv
      · rename_i e; subst e; cases hv
        split at hu
        · rename_i hn
          rw [h.out t hn]
          exact hs t v hu
        · rename_i en hen
          obtain ⟨w, h1, h2⟩ := h.val t en hen
          have := ex_sub hs _ _ hu
          rw [h2] at this; cases this
          exact h1
      · exact ih t v hv
    · exact ih t v hv

/-- The numbers from i on are free. -/
def IdsLt (σ : Env) (i : Nat) : Prop := ∀ t en, σ.get t = some en → (∀ x ∈ en.ch, ∀ j, i ≤ j → x.1 ≠ 2 * j + 1) ∧ ∀ j, i ≤ j → en.id ≠ 2 * j + 1

def updD (D : Nat → EX) (k : Nat) (e : EX) : Nat → EX := fun j => if j = k then e else D j

theorem guardCh_ids {σ : Env} {i : Nat} (h : IdsLt σ i) (g : Option (Nat × Bool)) : ∀ x ∈ guardCh σ g, ∀ j, i ≤ j → x.1 ≠ 2 * j + 1 := by
  intro x hx j hj
  cases g with
  | none => simp [guardCh] at hx
  | some gw =>
    obtain ⟨g, w⟩ := gw
    simp only [guardCh] at hx
    split at hx
    · simp at hx; subst hx; simp only; omega
    · rename_i en hen
      obtain ⟨h1, h2⟩ := h g en hen
      rw [List.mem_append] at hx
      rcases hx with hx | hx
      · exact h1 x hx j hj
      · simp at hx; subst hx; exact h2 j hj

/-- The environment behind a step, its numbers too. -/
theorem env_next {P : Program} {a0 a : CAct} {W : CW} {D : Nat → EX} {σ : Env} {i : Nat} (h : EnvOk P a0 a W D σ) (hi : IdsLt σ i) {s : RStep} {e : EX} {v : Value} (hv : (fullE (guardCh σ s.guard) e).ev P a0 W = some v) :
    ∃ D', EnvOk P a0 (putd a s.dst v) W D' (envPut σ s.dst ⟨guardCh σ s.guard, 2 * i + 1, e⟩) ∧ IdsLt (envPut σ s.dst ⟨guardCh σ s.guard, 2 * i + 1, e⟩) (i + 1) := by
  have hg := guardCh_ids hi s.guard
  have hc := guardCh_ok h s.guard
  have hup : ∀ ch : List (Nat × Bool × EX), ChOk D ch → (∀ x ∈ ch, ∀ j, i ≤ j → x.1 ≠ 2 * j + 1) → ChOk (updD D (2 * i + 1) e) ch := by
    intro ch h1 h2 x hx
    simp only [updD]
    rw [if_neg (h2 x hx i (Nat.le_refl _))]
    exact h1 x hx
  have h' : EnvOk P a0 a W (updD D (2 * i + 1) e) σ := by
    refine ⟨h.out, h.val, fun t en ht => ?_, fun g => ?_⟩
    · obtain ⟨h1, h2⟩ := h.chs t en ht
      obtain ⟨h3, h4⟩ := hi t en ht
      refine ⟨hup _ h1 h3, ?_⟩
      simp only [updD]
      rw [if_neg (h4 i (Nat.le_refl _))]
      exact h2
    · simp only [updD]
      rw [if_neg (by omega)]
      exact h.ext g
  refine ⟨updD D (2 * i + 1) e, ?_, ?_⟩
  · cases hd : s.dst with
    | none => exact h'
    | some d => exact EnvOk.set h' hv (hup _ hc hg) (by simp [updD]) d
  · cases hd : s.dst with
    | none => exact fun t en ht => ⟨fun x hx j hj => (hi t en ht).1 x hx j (by omega), fun j hj => (hi t en ht).2 j (by omega)⟩
    | some d =>
      intro t en ht
      simp only [envPut, Tr.get_set] at ht
      split at ht
      · cases ht
        exact ⟨fun x hx j hj => hg x hx j (by omega), fun j hj => by simp only; omega⟩
      · exact ⟨fun x hx j hj => (hi t en ht).1 x hx j (by omega), fun j hj => (hi t en ht).2 j (by omega)⟩

theorem ids_nil (i : Nat) : IdsLt .nil i := fun t en h => by cases h

def D0 : Nat → EX := fun k => .t (k / 2)
theorem D0_even (g : Nat) : D0 (2 * g) = .t g := by simp [D0]

/-- What must come to something comes first. -/
theorem segGo_musts : ∀ (steps : List RStep) (σ : Env) (i : Nat) (ms : List EX) (L : List (List Nat)), ∃ ms' outs rest, (segGo σ i ms steps L).1 = .seg ms' outs :: rest ∧ ∀ e ∈ ms, e ∈ ms'
  | [], σ, i, ms, L => ⟨_, _, _, rfl, fun e he => by simpa using he⟩
  | s :: r, σ, i, ms, L => by
    simp only [segGo]
    split
    · rename_i ch e h1
      obtain ⟨ms', outs, rest, h2, h3⟩ := segGo_musts r (envPut σ s.dst ⟨ch, 2 * i + 1, e⟩) (i + 1) (fullE ch e :: ms) L
      exact ⟨ms', outs, rest, h2, fun x hx => h3 x (List.mem_cons_of_mem _ hx)⟩
    · exact ⟨_, _, _, rfl, fun e he => by simpa using he⟩

theorem segGo_must {P : Program} {call : CCall} {s s' : CAct} {W W' : CW} {steps : List RStep} {σ : Env} {i : Nat} {ms : List EX} {L : List (List Nat)} (h : snodes P call (segGo σ i ms steps L).1 s W = some (s', W')) : ∀ e ∈ ms, ∃ v, e.ev P s W = some v := by
  obtain ⟨ms', outs, rest, h1, h2⟩ := segGo_musts steps σ i ms L
  rw [h1] at h
  simp only [snodes, snode] at h
  split at h
  · rename_i a1 W1 hq
    split at hq
    · rename_i hm
      exact fun e he => mustsOk_mem hm e (h2 e he)
    · cases hq
  · cases h

theorem one_step {P : Program} {call : CCall} {x : RStep} {a : CAct} {W : CW} {v : Value} (h : (wanted (sub a x.look) x.guard = some true ∧ doOp P call (sub a x.look) x.op W = some (v, W)) ∨ (wanted (sub a x.look) x.guard = some false ∧ v = undefV)) (r : List RStep) :
    rsteps P call (x :: r) a W = rsteps P call r (putd a x.dst v) W := by
  have hsub : Sub (sub a x.look) a := fun t v hv => sub_get' a _ t v hv
  rcases h with ⟨h1, h2⟩ | ⟨h1, rfl⟩
  · simp only [rsteps, wanted_sub hsub h1, doOp_sub hsub h2]
  · simp only [rsteps, wanted_sub hsub h1]

theorem segGo_sound {P : Program} {call : CCall} : ∀ (steps : List RStep) (σ : Env) (i : Nat) (ms : List EX) (L : List (List Nat)) (s a0 a : CAct) (W : CW) (D : Nat → EX) (s' : CAct) (W' : CW),
    EnvOk P a0 a W D σ → IdsLt σ i → Sub s a0 → snodes P call (segGo σ i ms steps L).1 s W = some (s', W') → ∃ a', rsteps P call steps a W = some (a', W') ∧ Sub s' a'
  | [], σ, i, ms, L, s, a0, a, W, D, s', W', he, hi, hs, hv => by
    simp only [segGo, snodes, snode] at hv
    split at hv
    · rename_i a1 W1 hq
      split at hq
      · cases hq; cases hv
        exact ⟨a, rfl, outF_sub he hs _⟩
      · cases hq
    · cases hv
  | x :: r, σ, i, ms, L, s, a0, a, W, D, s', W', he, hi, hs, hv => by
    simp only [segGo] at hv
    split at hv
    · rename_i ch e h1
      obtain ⟨v, h2⟩ := segGo_must hv (fullE ch e) (by simp)
      have h3 := ex_sub hs _ _ h2
      obtain ⟨rfl, h4⟩ := envStep_sound (call := call) he h1 h3
      obtain ⟨D', h5, h6⟩ := env_next he hi h3
      obtain ⟨a', g1, g2⟩ := segGo_sound r _ _ _ _ _ _ _ _ _ _ _ h5 h6 hs hv
      exact ⟨a', by rw [one_step h4]; exact g1, g2⟩
    · simp only [snodes, snode] at hv
      split at hv
      · rename_i a1 W1 hq
        split at hq
        · cases hq
          have hsub := outF_sub he hs (headL L)
          split at hv
          · rename_i a2 W2 hr
            obtain ⟨a3, k1, k2⟩ := rsteps_sub [x] _ _ _ _ _ hsub hr
            obtain ⟨a', g1, g2⟩ := segGo_sound r .nil (i + 1) [] (tailL L) a2 a3 a3 W2 _ _ _ (EnvOk.nil a3 D0 D0_even) (ids_nil _) k2 hv
            refine ⟨a', ?_, g2⟩
            have : ∀ (r : List RStep), rsteps P call (x :: r) a W = match rsteps P call [x] a W with | some (a, W) => rsteps P call r a W | none => none := by
              intro r
              simp only [rsteps]
              cases wanted a x.guard with
              | none => rfl
              | some b =>
                cases b with
                | true =>
                  simp only
                  cases doOp P call a x.op W with
                  | none => rfl
                  | some p => rfl
                | false => rfl
            rw [this, k1]
            exact g1
          · cases hv
        · cases hq
      · cases hv

/-- Records of steps that only read. -/
def Still (recs : List Rec) : Prop := ∀ rc ∈ recs, (∀ b, rc ≠ .a b) ∧ ∀ lg, rc ≠ .x lg

theorem okL_still {pre b lo hi : Nat} : ∀ {recs : List Rec} {i : Nat}, Still recs → okL pre b lo hi recs i = true
  | [], i, _ => rfl
  | rc :: recs, i, h => by
    have h1 := h rc (by simp)
    have ih := okL_still (pre := pre) (b := b) (lo := lo) (hi := hi) (recs := recs) (i := i + 1) fun x hx => h x (by simp [hx])
    cases rc with
    | a b' => exact absurd rfl (h1.1 b')
    | x lg => exact absurd rfl (h1.2 lg)
    | _ => exact ih

theorem okM_still {pre b : Nat} : ∀ {recs : List Rec} {i : Nat}, Still recs → okM pre b recs i = true
  | [], i, _ => rfl
  | rc :: recs, i, h => by
    have h1 := h rc (by simp)
    have ih := okM_still (pre := pre) (b := b) (recs := recs) (i := i + 1) fun x hx => h x (by simp [hx])
    cases rc with
    | a b' => exact absurd rfl (h1.1 b')
    | x lg => exact absurd rfl (h1.2 lg)
    | _ => exact ih

theorem stepE_kind {f fa fb : RX → EX} {o : ROp} {e : EX} (h : stepE f fa fb o = some e) : (∃ p, o = .p p) ∨ ∃ l, o = .l l := by
  cases o with
  | p o => exact .inl ⟨o, rfl⟩
  | l o => exact .inr ⟨o, rfl⟩
  | a o => simp [stepE] at h
  | x o => simp [stepE] at h

theorem quiet_step {P : Program} {call : CCall} {base : Nat} {x : RStep} {recs : List Rec} {A : CAct} {W : CW} {v : Value} (hr : Still recs) (hk : (∃ p, x.op = .p p) ∨ ∃ l, x.op = .l l)
    (h : (wanted A x.guard = some true ∧ doOp P call A x.op W = some (v, W)) ∨ (wanted A x.guard = some false ∧ v = undefV)) : ∃ rc, dstep P call base x recs A W = some (v, W, rc) ∧ Still (recs ++ [rc]) := by
  have add : ∀ rc : Rec, (∀ b, rc ≠ .a b) → (∀ lg, rc ≠ .x lg) → Still (recs ++ [rc]) := by
    intro rc h1 h2 y hy
    rw [List.mem_append] at hy
    rcases hy with hy | hy
    · exact hr y hy
    · simp at hy; subst hy; exact ⟨h1, h2⟩
  rcases h with ⟨h1, h2⟩ | ⟨h1, rfl⟩
  · rcases hk with ⟨p, hp⟩ | ⟨o, hl⟩
    · rw [hp] at h2
      simp only [doOp] at h2
      split at h2
      · rename_i u hu; cases h2
        exact ⟨.p, by simp only [dstep, h1, hp, hu], add _ (fun b h => by cases h) (fun b h => by cases h)⟩
      · cases h2
    · rw [hl] at h2
      simp only [doOp] at h2
      split at h2
      · rename_i u hu; cases h2
        unfold lop at hu
        split at hu
        · rename_i w hw; cases hu
          exact ⟨.p, by simp only [dstep, h1, hl, hw], add _ (fun b h => by cases h) (fun b h => by cases h)⟩
        · rename_i b hb
          split at hu
          · rename_i ob hg
            cases hsp : lspan A o with
            | none => exact ⟨.m b, by simp only [dstep, h1, hl, hb, hg, hu, hsp, okM_still hr, if_true], add _ (fun b h => by cases h) (fun b h => by cases h)⟩
            | some sp =>
              obtain ⟨lo, hi⟩ := sp
              exact ⟨.l b lo hi, by simp only [dstep, h1, hl, hb, hg, hu, hsp, okL_still hr, if_true], add _ (fun b h => by cases h) (fun b h => by cases h)⟩
          · cases hu
        · cases hu
      · cases h2
  · exact ⟨.p, by simp only [dstep, h1], add _ (fun b h => by cases h) (fun b h => by cases h)⟩

theorem segAll_keeps : ∀ (steps : List RStep) (σ σ' : Env) (i : Nat) (ms ms' : List EX), segAll σ i ms steps = some (σ', ms') → ∀ e ∈ ms, e ∈ ms'
  | [], σ, σ', i, ms, ms', h, e, he => by simp only [segAll, Option.some.injEq, Prod.mk.injEq] at h; rw [← h.2]; exact he
  | s :: r, σ, σ', i, ms, ms', h, e, he => by
    simp only [segAll] at h
    split at h
    · exact segAll_keeps r _ _ _ _ _ h e (List.mem_cons_of_mem _ he)
    · cases h

theorem segAll_sound {P : Program} {call : CCall} {base : Nat} : ∀ (steps : List RStep) (recs : List Rec) (σ σ' : Env) (i : Nat) (ms ms' : List EX) (a0 a : CAct) (W : CW) (D : Nat → EX),
    EnvOk P a0 a W D σ → IdsLt σ i → Still recs → segAll σ i ms steps = some (σ', ms') → (∀ e ∈ ms', ∃ v, e.ev P a0 W = some v) →
    ∃ a' D', rdraw P call base steps recs a W = some (a', W) ∧ EnvOk P a0 a' W D' σ'
  | [], recs, σ, σ', i, ms, ms', a0, a, W, D, he, hi, hr, h, hm => by
    simp only [segAll, Option.some.injEq, Prod.mk.injEq] at h
    obtain ⟨rfl, rfl⟩ := h
    exact ⟨a, D, rfl, he⟩
  | x :: r, recs, σ, σ', i, ms, ms', a0, a, W, D, he, hi, hr, h, hm => by
    simp only [segAll] at h
    split at h
    · rename_i ch e h1
      obtain ⟨v, h3⟩ := hm (fullE ch e) (segAll_keeps r _ _ _ _ _ h _ (by simp))
      obtain ⟨rfl, h4⟩ := envStep_sound (call := call) he h1 h3
      obtain ⟨D', h5, h6⟩ := env_next he hi h3
      have hk : (∃ p, x.op = .p p) ∨ ∃ l, x.op = .l l := by
        unfold envStep at h1
        simp only at h1
        split at h1
        · split at h1
          · rename_i h7; exact stepE_kind h7
          · cases h1
        · cases h1
      obtain ⟨rc, k1, k2⟩ := quiet_step (base := base) hr hk h4
      obtain ⟨a', D2, g1, g2⟩ := segAll_sound (call := call) (base := base) r _ _ _ _ _ _ _ _ _ _ h5 h6 k2 h hm
      exact ⟨a', D2, by simp only [rdraw, k1, g1], g2⟩
    · cases h

/-- The short code, and the code it was made of. -/
theorem ev_reserve {P : Program} (a : CAct) (W : CW) (k : Nat) : ∀ (e : EX), e.ev P a (W.reserve k) = e.ev P a W := by
  intro e
  induction e with
  | t n => rfl
  | c v => rfl
  | gd q w e h1 h2 => simp only [EX.ev, h1, h2]
  | pick q x y h1 h2 h3 => simp only [EX.ev, h1, h2, h3]
  | slc arr size fl fh fm x lo hi mx h1 h2 h3 h4 => simp only [EX.ev, h1, h2, h3, h4]
  | load k x h => simp only [EX.ev, h]; rfl
  | look z m k ok h1 h2 => simp only [EX.ev, h1, h2]; rfl
  | mlen m h => simp only [EX.ev, h]; rfl
  | bin op x y h1 h2 => simp only [EX.ev, h1, h2]
  | eq k neg x y h1 h2 => simp only [EX.ev, h1, h2]
  | iad arr size x y h1 h2 => simp only [EX.ev, h1, h2]
  | idx n k size x y h1 h2 => simp only [EX.ev, h1, h2]
  | max2 x y h1 h2 => simp only [EX.ev, h1, h2]
  | min2 x y h1 h2 => simp only [EX.ev, h1, h2]
  | sidx x y h1 h2 => simp only [EX.ev, h1, h2]
  | _ => simp only [EX.ev, *]

theorem outF_reserve {P : Program} (a : CAct) (W : CW) (k : Nat) : ∀ (l : List (Nat × EX)), outF P a (W.reserve k) l = outF P a W l
  | [] => rfl
  | (t, e) :: l => by simp only [outF, ev_reserve, outF_reserve a W k l]

theorem opt_sound {P : Program} {call : CCall} : ∀ (n : Nat) (c : RCode) (L : List (List Nat)) (s a : CAct) (W : CW) (e : CExit) (s' : CAct) (W' : CW),
    Sub s a → sexec P call n (opt c L).1 s W = some (e, s', W') → ∃ a', rexec P call n c a W = some (e, a', W') ∧ Sub s' a' := by
  intro n
  induction n with
  | zero => intro c L s a W e s' W' hs hv; cases hv
  | succ n ih =>
    intro c L s a W e s' W' hs hv
    cases c with
    | skip => simp only [opt, sexec] at hv; cases hv; exact ⟨a, rfl, hs⟩
    | exit id => simp only [opt, sexec] at hv; cases hv; exact ⟨a, rfl, hs⟩
    | ret => simp only [opt, sexec] at hv; cases hv; exact ⟨a, rfl, hs⟩
    | region ops =>
      simp only [opt, sexec] at hv
      split at hv
      · rename_i a1 W1 h1; cases hv
        obtain ⟨a', g1, g2⟩ := segGo_sound ops .nil 0 [] L s a a W _ s' W' (EnvOk.nil a D0 D0_even) (ids_nil _) hs h1
        exact ⟨a', by simp only [rexec, g1], g2⟩
      · cases hv
    | draw ops =>
      simp only [opt] at hv
      cases hq : segAll .nil 0 [] ops with
      | some p =>
        obtain ⟨σ, ms⟩ := p
        rw [hq] at hv
        simp only [sexec] at hv
        split at hv
        · rename_i hm; cases hv
          have hm' : ∀ e ∈ ms, ∃ v, e.ev P a (W.reserve ops.length) = some v := by
            intro e he
            obtain ⟨v, h1⟩ := mustsOk_mem hm e (by simpa using he)
            exact ⟨v, by rw [ev_reserve]; exact ex_sub hs _ _ h1⟩
          obtain ⟨a', D', g1, g2⟩ := segAll_sound (call := call) (base := W.next) ops [] .nil σ 0 [] ms a a (W.reserve ops.length) _ (EnvOk.nil a D0 D0_even) (ids_nil _) (fun rc h => by simp at h) hq hm'
          refine ⟨a', by simp only [rexec, g1], ?_⟩
          rw [← outF_reserve s W ops.length]
          exact outF_sub g2 hs _
        · cases hv
      | none =>
        rw [hq] at hv
        simp only [sexec] at hv
        split at hv
        · rename_i a1 W1 h1; cases hv
          obtain ⟨a', g1, g2⟩ := rdraw_sub ops [] s a _ _ _ hs h1
          exact ⟨a', by simp only [rexec, g1], g2⟩
        · cases hv
    | seq x y =>
      simp only [opt, sexec] at hv
      split at hv
      · rename_i a1 W1 h1
        obtain ⟨a2, g1, g2⟩ := ih x L s a W _ _ _ hs h1
        obtain ⟨a3, g3, g4⟩ := ih y _ a1 a2 W1 _ _ _ g2 hv
        exact ⟨a3, by simp only [rexec, g1, g3], g4⟩
      · rename_i hno
        obtain ⟨a2, g1, g2⟩ := ih x L s a W _ _ _ hs hv
        refine ⟨a2, ?_, g2⟩
        cases e with
        | normal => exact absurd hv (hno _ _)
        | _ => simp only [rexec, g1]
    | cond o x y =>
      simp only [opt, sexec] at hv
      split at hv
      · rename_i ho
        obtain ⟨a2, g1, g2⟩ := ih x L s a W _ _ _ hs hv
        exact ⟨a2, by simp only [rexec, rx_sub hs ho, g1], g2⟩
      · rename_i ho
        obtain ⟨a2, g1, g2⟩ := ih y _ s a W _ _ _ hs hv
        exact ⟨a2, by simp only [rexec, rx_sub hs ho, g1], g2⟩
      · cases hv
    | block id b =>
      simp only [opt, sexec] at hv
      split at hv
      · rename_i i a1 W1 h1
        obtain ⟨a2, g1, g2⟩ := ih b L s a W _ _ _ hs h1
        split at hv
        · rename_i hi; cases hv
          exact ⟨a2, by simp only [rexec, g1, if_pos hi], g2⟩
        · rename_i hi; cases hv
          exact ⟨a2, by simp only [rexec, g1, if_neg hi], g2⟩
      · rename_i hno
        obtain ⟨a2, g1, g2⟩ := ih b L s a W _ _ _ hs hv
        refine ⟨a2, ?_, g2⟩
        cases e with
        | exit i => exact absurd hv (hno _ _ _)
        | _ => simp only [rexec, g1]
    | loop b =>
      simp only [opt, sexec] at hv
      split at hv
      · rename_i a1 W1 h1
        obtain ⟨a2, g1, g2⟩ := ih b _ s a W _ _ _ hs h1
        obtain ⟨a3, g3, g4⟩ := ih (.loop b) L (keepF a1 (headL L)) a2 W1 e s' W' (fun t v ht => g2 t v (keepF_sub a1 _ t v ht)) (by simpa only [opt] using hv)
        exact ⟨a3, by simp only [rexec, g1, g3], g4⟩
      · rename_i hno
        obtain ⟨a2, g1, g2⟩ := ih b _ s a W _ _ _ hs hv
        refine ⟨a2, ?_, g2⟩
        cases e with
        | normal => exact absurd hv (hno _ _)
        | _ => simp only [rexec, g1]

end Go.Can
