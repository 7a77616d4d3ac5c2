/-
  Canonical code made short: environments of expressions along a straight segment.
-/
import Derived.Test.YtcilkncmhmckmaaGreatCanU
namespace Go.Can
open Go
set_option linter.all false

structure En where
  ch : List (Nat × Bool × EX)
  id : Nat
  e : EX

abbrev Env := Tr En

def fullE : List (Nat × Bool × EX) → EX → EX
  | [], e => e
  | (_, w, q) :: r, e => .gd q w (fullE r e)

def prefixOf : List (Nat × Bool × EX) → List (Nat × Bool × EX) → Bool
  | [], _ => true
  | (i, w, _) :: r, (j, v, _) :: s => i == j && w == v && prefixOf r s
  | _ :: _, [] => false

def rxE (σ : Env) (ch ch2 : List (Nat × Bool × EX)) : RX → EX
  | .c v => .c v
  | .t n => match σ.get n with
    | none => .t n
    | some en => if prefixOf en.ch ch || prefixOf en.ch ch2 then en.e else fullE en.ch en.e

def guardCh (σ : Env) : Option (Nat × Bool) → List (Nat × Bool × EX)
  | none => []
  | some (g, w) => match σ.get g with
    | none => [(2 * g, w, .t g)]
    | some en => en.ch ++ [(en.id, w, en.e)]

/-- What holds besides in a branch of a pick. -/
def pickCh (σ : Env) (ch : List (Nat × Bool × EX)) (w : Bool) : ROp → List (Nat × Bool × EX)
  | .p (.pick (.t n) _ _) => match σ.get n with
    | none => [(2 * n, w, .t n)]
    | some en => if prefixOf en.ch ch then en.ch ++ [(en.id, w, en.e)] else ch
  | _ => ch

/-- An expression that comes to nothing. -/
def badE : EX := .slen (.c (.bool true))

def lookE (look : List Nat) (f : RX → EX) : RX → EX
  | .t n => if look.contains n then f (.t n) else badE
  | .c v => f (.c v)

def guardIn (look : List Nat) : Option (Nat × Bool) → Bool
  | none => true
  | some (g, _) => look.contains g

def envStep (σ : Env) (s : RStep) : Option (List (Nat × Bool × EX) × EX) :=
  let ch := guardCh σ s.guard
  if guardIn s.look s.guard = true then
    match stepE (lookE s.look (rxE σ ch ch)) (lookE s.look (rxE σ ch (pickCh σ ch true s.op))) (lookE s.look (rxE σ ch (pickCh σ ch false s.op))) s.op with
    | some e => some (ch, e)
    | none => none
  else none

theorem sub_mem (a : CAct) : ∀ (ts : List Nat) (t : Nat), t ∈ ts → (sub a ts).get t = a.get t
  | d :: l, t, h => by
    simp only [sub]
    by_cases e : t = d
    · subst e
      cases ha : a.get t with
      | some v => simp [Tr.get_set]
      | none =>
        simp only
        by_cases hl : t ∈ l
        · rw [sub_mem a l t hl, ha]
        · have : ∀ ts : List Nat, t ∉ ts → (sub a ts).get t = none := by
            intro ts
            induction ts with
            | nil => intro _; rfl
            | cons d ts ih =>
              intro hn
              simp at hn
              simp only [sub]
              split
              · rw [Tr.get_set, if_neg hn.1]; exact ih hn.2
              · exact ih hn.2
          exact this l hl
    · have hl : t ∈ l := by
        rcases List.mem_cons.1 h with h | h
        · exact absurd h e
        · exact h
      cases ha : a.get d with
      | some v => simp only [Tr.get_set, if_neg e]; exact sub_mem a l t hl
      | none => exact sub_mem a l t hl

theorem sub_get' (a : CAct) : ∀ (ts : List Nat) (t : Nat) (v : Value), (sub a ts).get t = some v → a.get t = some v
  | [], t, v, h => by simp [sub] at h
  | d :: l, t, v, h => by
    simp only [sub] at h
    split at h
    · rename_i u hu
      rw [Tr.get_set] at h
      split at h
      · rename_i e; subst e; rw [hu]; exact h
      · exact sub_get' a l t v h
    · exact sub_get' a l t v h

theorem lookE_sound {P : Program} {a0 a : CAct} {W : CW} {look : List Nat} {f : RX → EX} {x : RX} {v : Value} (hf : (f x).ev P a0 W = some v → x.ev a = some v) (hv : (lookE look f x).ev P a0 W = some v) : x.ev (sub a look) = some v := by
  cases x with
  | c u => exact hf hv
  | t n =>
    simp only [lookE] at hv
    split at hv
    · rename_i hc
      have h1 := hf hv
      simp only [RX.ev] at h1 ⊢
      rw [sub_mem a look n (by simpa using hc)]
      exact h1
    · simp [badE, EX.ev, b1, vSlen] at hv

section
variable {P : Program} {a0 : CAct} {W : CW}

def gS (q : Option Value) (w : Bool) (x : Option Bool) : Option Bool :=
  match q with
  | some (.bool b) => if b = w then x else some false
  | some (.tuple _) => some false
  | _ => none

/-- Do the guards of a chain hold? -/
def st (P : Program) (a0 : CAct) (W : CW) : List (Nat × Bool × EX) → Option Bool
  | [] => some true
  | (_, w, q) :: r => gS (q.ev P a0 W) w (st P a0 W r)

def stV (o : Option Bool) (x : Option Value) : Option Value :=
  match o with
  | some true => x
  | some false => some undefV
  | none => none

theorem gdV_stV (q : Option Value) (w : Bool) (s : Option Bool) (x : Option Value) : gdV q w (stV s x) = stV (gS q w s) x := by
  cases q with
  | none => rfl
  | some v =>
    cases v <;> try rfl
    rename_i b
    simp only [gdV, gS]
    split <;> rfl

theorem full_ev : ∀ (ch : List (Nat × Bool × EX)) (e : EX), (fullE ch e).ev P a0 W = stV (st P a0 W ch) (e.ev P a0 W)
  | [], e => rfl
  | (i, w, q) :: r, e => by
    simp only [fullE, EX.ev, st]
    rw [full_ev r e, gdV_stV]

def andS (x y : Option Bool) : Option Bool :=
  match x with
  | some true => y
  | o => o

theorem gS_andS (q : Option Value) (w : Bool) (s t : Option Bool) : gS q w (andS s t) = andS (gS q w s) t := by
  cases q with
  | none => rfl
  | some v =>
    cases v <;> try rfl
    rename_i b
    simp only [gS]
    split <;> rfl

theorem st_append : ∀ (l r : List (Nat × Bool × EX)), st P a0 W (l ++ r) = andS (st P a0 W l) (st P a0 W r)
  | [], r => rfl
  | (i, w, q) :: l, r => by
    simp only [List.cons_append, st]
    rw [st_append l r, gS_andS]

/-- Chains whose guards are told by their numbers. -/
def ChOk (D : Nat → EX) (ch : List (Nat × Bool × EX)) : Prop := ∀ x ∈ ch, x.2.2 = D x.1

theorem prefixOf_sound {D : Nat → EX} : ∀ {l m : List (Nat × Bool × EX)}, ChOk D l → ChOk D m → prefixOf l m = true → ∃ r, m = l ++ r
  | [], m, _, _, _ => ⟨m, rfl⟩
  | (i, w, q) :: l, (j, v, q') :: m, hl, hm, h => by
    simp only [prefixOf, Bool.and_eq_true, beq_iff_eq] at h
    obtain ⟨⟨rfl, rfl⟩, h3⟩ := h
    have e1 : q = D i := hl (i, w, q) (by simp)
    have e2 : q' = D i := hm (i, w, q') (by simp)
    obtain ⟨r, hr⟩ := prefixOf_sound (fun x hx => hl x (by simp [hx])) (fun x hx => hm x (by simp [hx])) h3
    exact ⟨r, by rw [hr, e1, e2]; rfl⟩
  | _ :: _, [], _, _, h => by simp [prefixOf] at h

theorem st_prefix {l r : List (Nat × Bool × EX)} (h : st P a0 W (l ++ r) = some true) : st P a0 W l = some true := by
  rw [st_append] at h
  unfold andS at h
  split at h
  · assumption
  · rename_i hno; exact absurd h hno

structure EnvOk (P : Program) (a0 a : CAct) (W : CW) (D : Nat → EX) (σ : Env) : Prop where
  out : ∀ t, σ.get t = none → a.get t = a0.get t
  val : ∀ t en, σ.get t = some en → ∃ v, a.get t = some v ∧ (fullE en.ch en.e).ev P a0 W = some v
  chs : ∀ t en, σ.get t = some en → ChOk D en.ch ∧ D en.id = en.e
  ext : ∀ g, D (2 * g) = .t g

theorem EnvOk.nil (a : CAct) (D : Nat → EX) (h : ∀ g, D (2 * g) = .t g) : EnvOk P a a W D .nil :=
  ⟨fun _ _ => rfl, fun t en h => (by cases h), fun t en h => (by cases h), h⟩

section
variable {a : CAct} {D : Nat → EX} {σ : Env} (h : EnvOk P a0 a W D σ)
include h

theorem guardCh_ok (g : Option (Nat × Bool)) : ChOk D (guardCh σ g) := by
  cases g with
  | none => intro x hx; simp [guardCh] at hx
  | some gw =>
    obtain ⟨g, w⟩ := gw
    simp only [guardCh]
    split
    · intro x hx; simp at hx; subst hx; exact (h.ext g).symm
    · rename_i en hen
      obtain ⟨h1, h2⟩ := h.chs g en hen
      intro x hx
      rw [List.mem_append] at hx
      rcases hx with hx | hx
      · exact h1 x hx
      · simp at hx; subst hx; exact h2.symm

/-- A guard says what its chain says. -/
theorem wanted_st (g : Option (Nat × Bool)) : wanted a g = st P a0 W (guardCh σ g) := by
  cases g with
  | none => rfl
  | some gw =>
    obtain ⟨g, w⟩ := gw
    simp only [guardCh]
    have key : ∀ v : Option Value, (match v with | some (.bool b) => some (b == w) | some (.tuple _) => some false | _ => none) = gS v w (some true) := by
      intro v
      cases v with
      | none => rfl
      | some v =>
        cases v <;> try rfl
        rename_i b
        cases b <;> cases w <;> rfl
    split
    · rename_i hn
      simp only [wanted, st, EX.ev]
      rw [h.out g hn]
      exact key _
    · rename_i en hen
      obtain ⟨v, h1, h2⟩ := h.val g en hen
      rw [full_ev] at h2
      rw [st_append]
      simp only [wanted, h1, st]
      cases hs : st P a0 W en.ch with
      | none => rw [hs] at h2; cases h2
      | some b =>
        rw [hs] at h2
        cases b with
        | true =>
          simp only [stV] at h2
          rw [h2]
          simp only [andS]
          exact key (some v)
        | false =>
          simp only [stV, Option.some.injEq] at h2
          subst h2
          rfl

theorem rxE_sound {ch ch2 : List (Nat × Bool × EX)} (hc : ChOk D ch) (hc2 : ChOk D ch2) (hs : st P a0 W ch = some true) (hs2 : st P a0 W ch2 = some true) (x : RX) (v : Value) (hv : (rxE σ ch ch2 x).ev P a0 W = some v) : x.ev a = some v := by
  cases x with
  | c u => exact hv
  | t n =>
    simp only [rxE] at hv
    split at hv
    · rename_i hn
      simp only [EX.ev] at hv
      simp only [RX.ev]
      rw [h.out n hn]; exact hv
    · rename_i en hen
      obtain ⟨u, h1, h2⟩ := h.val n en hen
      obtain ⟨h3, _⟩ := h.chs n en hen
      have e : u = v := by
        split at hv
        · rename_i hp
          rw [full_ev] at h2
          have hst : st P a0 W en.ch = some true := by
            rw [Bool.or_eq_true] at hp
            rcases hp with hp | hp
            · obtain ⟨r, hr⟩ := prefixOf_sound h3 hc hp
              rw [hr] at hs; exact st_prefix hs
            · obtain ⟨r, hr⟩ := prefixOf_sound h3 hc2 hp
              rw [hr] at hs2; exact st_prefix hs2
          rw [hst] at h2
          simp only [stV] at h2
          rw [h2] at hv
          exact Option.some.inj hv
        · rw [h2] at hv
          exact Option.some.inj hv
      subst e
      exact h1

theorem pickCh_ok {ch : List (Nat × Bool × EX)} (hc : ChOk D ch) (hs : st P a0 W ch = some true) (w : Bool) {c x y : RX} (hb : c.ev a = some (.bool w)) :
    ChOk D (pickCh σ ch w (.p (.pick c x y))) ∧ st P a0 W (pickCh σ ch w (.p (.pick c x y))) = some true := by
  cases c with
  | c v => exact ⟨hc, hs⟩
  | t n =>
    simp only [pickCh]
    simp only [RX.ev] at hb
    split
    · rename_i hn
      refine ⟨fun x hx => by simp at hx; subst hx; exact (h.ext n).symm, ?_⟩
      simp only [st, EX.ev]
      rw [← h.out n hn, hb]
      simp [gS]
    · rename_i en hen
      split
      · rename_i hp
        obtain ⟨u, h1, h2⟩ := h.val n en hen
        obtain ⟨h3, h4⟩ := h.chs n en hen
        obtain ⟨r, hr⟩ := prefixOf_sound h3 hc hp
        have hst : st P a0 W en.ch = some true := by rw [hr] at hs; exact st_prefix hs
        refine ⟨fun x hx => ?_, ?_⟩
        · rw [List.mem_append] at hx
          rcases hx with hx | hx
          · exact h3 x hx
          · simp at hx; subst hx; exact h4.symm
        · rw [full_ev, hst] at h2
          simp only [stV] at h2
          rw [hb] at h1; cases h1
          rw [st_append, hst]
          simp only [andS, st, h2]
          simp [gS]
      · exact ⟨hc, hs⟩

/-- One step, as an expression. -/
theorem envStep_sound {call : CCall} {s : RStep} {ch : List (Nat × Bool × EX)} {e : EX} (he : envStep σ s = some (ch, e)) {v : Value} (hv : (fullE ch e).ev P a0 W = some v) :
    ch = guardCh σ s.guard ∧ ((wanted (sub a s.look) s.guard = some true ∧ doOp P call (sub a s.look) s.op W = some (v, W)) ∨ (wanted (sub a s.look) s.guard = some false ∧ v = undefV)) := by
  unfold envStep at he
  simp only at he
  split at he
  · rename_i hg
    split at he
    · rename_i e1 h1; cases he
      refine ⟨rfl, ?_⟩
      rw [full_ev] at hv
      have hws : wanted (sub a s.look) s.guard = wanted a s.guard := by
        cases hq : s.guard with
        | none => rfl
        | some gw =>
          obtain ⟨g, w⟩ := gw
          rw [hq] at hg
          simp only [guardIn] at hg
          simp only [wanted]
          rw [sub_mem a s.look g (by simpa using hg)]
      rw [hws]
      have hw := wanted_st h s.guard
      have hok := guardCh_ok h s.guard
      cases hs : st P a0 W (guardCh σ s.guard) with
      | none => rw [hs] at hv; cases hv
      | some b =>
        rw [hs] at hv hw
        cases b with
        | false =>
          simp only [stV, Option.some.injEq] at hv
          exact .inr ⟨hw, hv.symm⟩
        | true =>
          simp only [stV] at hv
          have hcs : ∀ {c : RX} {u : Value}, c.ev (sub a s.look) = some u → c.ev a = some u := by
            intro c u hc
            cases c with
            | t n => exact sub_get' a _ _ _ hc
            | c w => exact hc
          refine .inl ⟨hw, stepE_sound h1 (fun x u hu => lookE_sound (fun hu => rxE_sound h hok hok hs hs x u hu) hu) (fun c x y hop => ⟨fun hc u hu => ?_, fun hc u hu => ?_⟩) hv⟩
          · rw [hop] at hu
            obtain ⟨k1, k2⟩ := pickCh_ok h hok hs true (x := x) (y := y) (hcs hc)
            exact lookE_sound (fun hu => rxE_sound h hok k1 hs k2 x u hu) hu
          · rw [hop] at hu
            obtain ⟨k1, k2⟩ := pickCh_ok h hok hs false (x := x) (y := y) (hcs hc)
            exact lookE_sound (fun hu => rxE_sound h hok k1 hs k2 y u hu) hu
    · cases he
  · cases he

/-- The environment behind a step. -/
theorem EnvOk.set {ch : List (Nat × Bool × EX)} {e : EX} {v : Value} (hv : (fullE ch e).ev P a0 W = some v) (hc : ChOk D ch) {id : Nat} (hid : D id = e) (d : Nat) : EnvOk P a0 (a.set d v) W D (σ.set d ⟨ch, id, e⟩) := by
  refine ⟨fun t ht => ?_, fun t en ht => ?_, fun t en ht => ?_, h.ext⟩
  · rw [Tr.get_set] at ht ⊢
    split at ht
    · cases ht
    · rename_i hne; rw [if_neg hne]; exact h.out t ht
  · rw [Tr.get_set] at ht ⊢
    split at ht
    · rename_i e; cases ht
      exact ⟨v, by rw [if_pos e], hv⟩
    · rename_i hne; rw [if_neg hne]; exact h.val t en ht
  · rw [Tr.get_set] at ht
    split at ht
    · cases ht; exact ⟨hc, hid⟩
    · exact h.chs t en ht

end

end

end Go.Can
