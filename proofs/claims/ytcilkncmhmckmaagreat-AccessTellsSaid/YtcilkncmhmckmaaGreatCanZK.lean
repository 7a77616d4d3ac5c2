/-
  Canonical runs by a table of short codes, in a form that the kernel takes in few steps: recursors alone, no branch is looked at that is not taken.
-/
import Derived.Test.YtcilkncmhmckmaaGreatCanZE
import Derived.Test.YtcilkncmhmckmaaGreatCanZA
namespace Go.Can
open Go
set_option linter.all false

noncomputable def getK {α : Type} (t : Tr α) : Nat → Option α :=
  Tr.rec (motive := fun _ => Nat → Option α) (fun _ => none)
    (fun _ v _ gl gr k => Bool.rec (motive := fun _ => Option α) (Bool.rec (motive := fun _ => Option α) (gr (Nat.pred (Nat.div k 2))) (gl (Nat.div k 2)) (Nat.beq (Nat.mod k 2) 1)) v (Nat.beq k 0))
    (fun k a _ g j => Bool.rec (motive := fun _ => Option α) (g j) (some a) (Nat.beq j k)) t

theorem getK_eq {α : Type} (t : Tr α) : ∀ (k : Nat), getK t k = t.get k := by
  induction t with
  | nil => intro k; rfl
  | node l v r hl hr =>
    intro k
    show (Bool.rec (motive := fun _ => Option α) (Bool.rec (motive := fun _ => Option α) (getK r (Nat.pred (Nat.div k 2))) (getK l (Nat.div k 2)) (Nat.beq (Nat.mod k 2) 1)) v (Nat.beq k 0)) = _
    rw [hl, hr]; rfl
  | cons k a t ht =>
    intro j
    show (Bool.rec (motive := fun _ => Option α) (getK t j) (some a) (Nat.beq j k)) = _
    rw [ht]; rfl

noncomputable def vLoadK (W : CW) (k : Option Nat) : Value → Option Value
  | .pointer (some ⟨b, off, _⟩) => rowPart' k off (getK W.heap b)
  | _ => none
where
  rowPart' (k : Option Nat) (off : Nat) (ob : Option CObj) : Option Value :=
    match ob with
    | some (.row cs _) => part k cs off
    | _ => none

theorem vLoadK_eq (W : CW) (k : Option Nat) (v : Value) : vLoadK W k v = vLoad W k v := by
  cases v with
  | pointer p =>
    cases p with
    | none => rfl
    | some a =>
      obtain ⟨b, off, sp⟩ := a
      show vLoadK.rowPart' k off (getK W.heap b) = _
      rw [getK_eq]; rfl
  | _ => rfl

/-- The expressions. -/
noncomputable def evK (P : Program) (a : CAct) (W : CW) (e : EX) : Option Value :=
  EX.rec (motive := fun _ => Option Value)
    (fun n => getK a n)
    (fun v => some v)
    (fun _ w _ q e => gdV q w e)
    (fun _ _ _ q x y => pickV q x y)
    (fun _ x => b1 x vNchk)
    (fun op _ _ x y => b2 x y (cbin op))
    (fun k neg _ _ x y => b2 x y (vEq k neg))
    (fun op _ x => b1 x (cun op))
    (fun k _ x => b1 x (vConv k))
    (fun ty _ x => b1 x fun v => some (.iface ty v))
    (fun arr size fl fh fm _ _ _ _ x lo hi mx => b1 x fun v => bo fl lo fun l => bo fh hi fun h => bo fm mx fun m => vSlc arr size v l h m)
    (fun off _ x => b1 x (vFad off))
    (fun k off _ x => b1 x (vFld k off))
    (fun arr size _ _ x i => b2 x i (vIad arr size))
    (fun n k size _ _ x i => b2 x i (vIdx n k size))
    (fun want z _ ok x => b1 x (vTass P want z ok))
    (fun _ i x => b1 x (vExt i))
    (fun _ x => b1 x vSlen)
    (fun _ x => b1 x vTlen)
    (fun n _ x => b1 x fun _ => some (.int .i64 n))
    (fun _ _ x y => b2 x y vMax)
    (fun _ _ x y => b2 x y vMin)
    (fun _ _ x y => b2 x y vSidx)
    (fun k _ x => b1 x (vLoadK W k))
    (fun z _ _ ok m k => b2 m k (vLook W z ok))
    (fun _ m => b1 m (vMlen W)) e

theorem evK_eq (P : Program) (a : CAct) (W : CW) (e : EX) : evK P a W e = e.ev P a W := by
  induction e with
  | t n => exact getK_eq a n
  | c v => rfl
  | gd q w e hq he => simp only [EX.ev, ← hq, ← he]; rfl
  | pick q x y hq hx hy => simp only [EX.ev, ← hq, ← hx, ← hy]; rfl
  | slc arr size fl fh fm x lo hi mx h1 h2 h3 h4 => simp only [EX.ev, ← h1, ← h2, ← h3, ← h4]; rfl
  | load k x hx =>
    simp only [EX.ev, ← hx]
    show b1 (evK P a W x) (vLoadK W k) = _
    rw [show vLoadK W k = vLoad W k from funext (vLoadK_eq W k)]
  | bin op x y hx hy => simp only [EX.ev, ← hx, ← hy]; rfl
  | eq k n x y hx hy => simp only [EX.ev, ← hx, ← hy]; rfl
  | iad p q x y hx hy => simp only [EX.ev, ← hx, ← hy]; rfl
  | idx n k s x y hx hy => simp only [EX.ev, ← hx, ← hy]; rfl
  | max2 x y hx hy => simp only [EX.ev, ← hx, ← hy]; rfl
  | min2 x y hx hy => simp only [EX.ev, ← hx, ← hy]; rfl
  | sidx x y hx hy => simp only [EX.ev, ← hx, ← hy]; rfl
  | look z m k ok hm hk => simp only [EX.ev, ← hm, ← hk]; rfl
  | _ => rename_i h; simp only [EX.ev, ← h]; rfl

noncomputable def mustsK (P : Program) (a : CAct) (W : CW) (l : List EX) : Bool :=
  List.rec (motive := fun _ => Bool) true (fun e _ r => Option.rec (motive := fun _ => Bool) false (fun _ => r) (evK P a W e)) l

theorem mustsK_eq (P : Program) (a : CAct) (W : CW) : ∀ (l : List EX), mustsK P a W l = mustsOk P a W l
  | [] => rfl
  | e :: l => by
    show Option.rec (motive := fun _ => Bool) false (fun _ => mustsK P a W l) (evK P a W e) = _
    rw [evK_eq, mustsK_eq P a W l]
    simp only [mustsOk]
    cases e.ev P a W <;> rfl

noncomputable def outK (P : Program) (a : CAct) (W : CW) (l : List (Nat × EX)) : CAct :=
  List.rec (motive := fun _ => CAct) .nil (fun x _ r => Option.rec (motive := fun _ => CAct) r (fun v => .cons x.1 v r) (evK P a W x.2)) l

theorem outK_eq (P : Program) (a : CAct) (W : CW) : ∀ (l : List (Nat × EX)), outK P a W l = outF P a W l
  | [] => rfl
  | (t, e) :: l => by
    show Option.rec (motive := fun _ => CAct) (outK P a W l) (fun v => .cons t v (outK P a W l)) (evK P a W e) = _
    rw [evK_eq, outK_eq P a W l]
    simp only [outF]
    cases e.ev P a W <;> rfl

noncomputable def keepK (a : CAct) (l : List Nat) : CAct :=
  List.rec (motive := fun _ => CAct) .nil (fun t _ r => Option.rec (motive := fun _ => CAct) r (fun v => .cons t v r) (getK a t)) l

theorem keepK_eq (a : CAct) : ∀ (l : List Nat), keepK a l = keepF a l
  | [] => rfl
  | t :: l => by
    show Option.rec (motive := fun _ => CAct) (keepK a l) (fun v => .cons t v (keepK a l)) (getK a t) = _
    rw [getK_eq, keepK_eq a l]
    simp only [keepF]
    cases a.get t <;> rfl

abbrev KRes := Option (CExit × CAct × CW)
abbrev NRes := Option (CAct × CW)

/-- What follows a result. -/
noncomputable def thenK (r : NRes) (f : CAct → CW → KRes) : KRes := Option.rec (motive := fun _ => KRes) none (fun x => Prod.rec (motive := fun _ => KRes) f x) r

noncomputable def nodeK (P : Program) (call : CCall) (s : SN) (a : CAct) (W : CW) : NRes :=
  SN.rec (motive := fun _ => NRes) (fun ms outs => Bool.rec (motive := fun _ => NRes) none (some (outK P a W outs, W)) (mustsK P a W ms)) (fun s => rsteps P call [s] a W) s

theorem nodeK_eq (P : Program) (call : CCall) (s : SN) (a : CAct) (W : CW) : nodeK P call s a W = snode P call s a W := by
  cases s with
  | seg ms outs =>
    show Bool.rec (motive := fun _ => NRes) none (some (outK P a W outs, W)) (mustsK P a W ms) = _
    rw [mustsK_eq, outK_eq]
    simp only [snode]
    cases mustsOk P a W ms <;> rfl
  | raw s => rfl

noncomputable def nodesK (P : Program) (call : CCall) (l : List SN) : CAct → CW → NRes :=
  List.rec (motive := fun _ => CAct → CW → NRes) (fun a W => some (a, W)) (fun s _ r a W => Option.rec (motive := fun _ => NRes) none (fun x => Prod.rec (motive := fun _ => NRes) r x) (nodeK P call s a W)) l

theorem nodesK_eq (P : Program) (call : CCall) : ∀ (l : List SN) (a : CAct) (W : CW), nodesK P call l a W = snodes P call l a W
  | [], a, W => rfl
  | s :: l, a, W => by
    show Option.rec (motive := fun _ => NRes) none (fun x => Prod.rec (motive := fun _ => NRes) (nodesK P call l) x) (nodeK P call s a W) = _
    rw [nodeK_eq]
    simp only [snodes]
    cases snode P call s a W with
    | none => rfl
    | some x => obtain ⟨a1, W1⟩ := x; exact nodesK_eq P call l a1 W1

/-- A test. -/
noncomputable def condK (v : Option Value) (x y : KRes) : KRes :=
  match v with
  | some (.bool b) => Bool.rec (motive := fun _ => KRes) y x b
  | _ => none

noncomputable def rxK (a : CAct) (c : RX) : Option Value := RX.rec (motive := fun _ => Option Value) (fun n => getK a n) (fun v => some v) c

theorem rxK_eq (a : CAct) (c : RX) : rxK a c = c.ev a := by cases c <;> first | exact getK_eq a _ | rfl

/-- Behind a piece that ended: on, if it ended normally. -/
noncomputable def onK (r : KRes) (f : CAct → CW → KRes) : KRes :=
  Option.rec (motive := fun _ => KRes) none (fun x => Prod.rec (motive := fun _ => KRes) (fun e y => Prod.rec (motive := fun _ => KRes) (fun a W => CExit.rec (motive := fun _ => KRes) (f a W) (fun i => some (.exit i, a, W)) (some (.ret, a, W)) e) y) x) r

noncomputable def blockK (id : Nat) (r : KRes) : KRes :=
  Option.rec (motive := fun _ => KRes) none (fun x => Prod.rec (motive := fun _ => KRes) (fun e y => Prod.rec (motive := fun _ => KRes) (fun a W => CExit.rec (motive := fun _ => KRes) (some (.normal, a, W)) (fun i => Bool.rec (motive := fun _ => KRes) (some (.exit i, a, W)) (some (.normal, a, W)) (Nat.beq i id)) (some (.ret, a, W)) e) y) x) r

/-- The short code: m rounds of a loop at most. -/
noncomputable def execK (P : Program) (call : CCall) (m : Nat) (S : SCode) : CAct → CW → KRes :=
  SCode.rec (motive := fun _ => CAct → CW → KRes)
    (fun a W => some (.normal, a, W))
    (fun l a W => thenK (nodesK P call l a W) fun a W => some (.normal, a, W))
    (fun k ms outs a W => Bool.rec (motive := fun _ => KRes) none (some (.normal, outK P a W outs, W.reserve k)) (mustsK P a W ms))
    (fun ops a W => thenK (rdraw P call W.next ops [] a (W.reserve ops.length)) fun a W => some (.normal, a, W))
    (fun _ _ x y a W => onK (x a W) y)
    (fun c _ _ x y a W => condK (rxK a c) (x a W) (y a W))
    (fun id _ b a W => blockK id (b a W))
    (fun norm _ b => Nat.rec (motive := fun _ => CAct → CW → KRes) (fun _ _ => none) (fun _ r a W => onK (b a W) fun a W => r (keepK a norm) W) m)
    (fun id a W => some (.exit id, a, W))
    (fun a W => some (.ret, a, W)) S

theorem onK_some {r : KRes} {f : CAct → CW → KRes} {z : CExit × CAct × CW} (h : onK r f = some z) : (∃ a W, r = some (.normal, a, W) ∧ f a W = some z) ∨ (r = some z ∧ z.1 ≠ .normal) := by
  cases r with
  | none => cases h
  | some x =>
    obtain ⟨e, a, W⟩ := x
    cases e with
    | normal => exact .inl ⟨a, W, rfl, h⟩
    | exit i =>
      have : some (CExit.exit i, a, W) = some z := h
      cases this
      exact .inr ⟨rfl, fun h => by cases h⟩
    | ret =>
      have : some (CExit.ret, a, W) = some z := h
      cases this
      exact .inr ⟨rfl, fun h => by cases h⟩

theorem thenK_some {r : NRes} {z : CExit × CAct × CW} (h : (thenK r fun a W => some (.normal, a, W)) = some z) : ∃ a W, r = some (a, W) ∧ z = (.normal, a, W) := by
  cases r with
  | none => cases h
  | some x =>
    obtain ⟨a, W⟩ := x
    have : some (CExit.normal, a, W) = some z := h
    cases this
    exact ⟨a, W, rfl, rfl⟩

/-- A call tells what the canonical run does. -/
def Tells (P : Program) (orc : Orc) (call : CCall) : Prop := ∀ f args W v W', call f args W = some (v, W') → ∃ n, rcall P orc n f args W = some (v, W')

section
variable {P : Program} {orc : Orc} {call : CCall}

theorem doX_tells (hc : Tells P orc call) {a : CAct} {o : XOp} {W : CW} {v : Value} {W' : CW} (h : doX P call a o W = some (v, W')) : ∃ n, doX P (rcall P orc n) a o W = some (v, W') := by
  unfold doX at h
  split at h
  · rename_i h1; cases h; exact ⟨0, by simp only [doX, h1]⟩
  · rename_i h1
    obtain ⟨n, hn⟩ := hc _ _ _ _ _ h
    exact ⟨n, by simp only [doX, h1, hn]⟩
  · cases h

theorem steps_tells (hc : Tells P orc call) {s : RStep} {a : CAct} {W : CW} {r : CAct × CW} (h : rsteps P call [s] a W = some r) : ∃ n, rsteps P (rcall P orc n) [s] a W = some r := by
  simp only [rsteps] at h
  split at h
  · rename_i hw
    split at h
    · rename_i v W1 h1
      cases h
      cases ho : s.op with
      | p o => rw [ho] at h1; exact ⟨0, by simp only [rsteps, hw, ho]; simp only [doOp] at h1 ⊢; rw [h1]⟩
      | l o => rw [ho] at h1; exact ⟨0, by simp only [rsteps, hw, ho]; simp only [doOp] at h1 ⊢; rw [h1]⟩
      | a o => rw [ho] at h1; exact ⟨0, by simp only [rsteps, hw, ho]; simp only [doOp] at h1 ⊢; rw [h1]⟩
      | x o =>
        rw [ho] at h1
        obtain ⟨n, hn⟩ := doX_tells hc (show doX P call a o W = some (v, W1) from h1)
        exact ⟨n, by simp only [rsteps, hw, ho, doOp, hn]⟩
    · cases h
  · rename_i hw; cases h; exact ⟨0, by simp only [rsteps, hw]⟩
  · cases h

theorem nodes_tells (hc : Tells P orc call) : ∀ (l : List SN) (a : CAct) (W : CW) (r : CAct × CW), snodes P call l a W = some r → ∃ n, snodes P (rcall P orc n) l a W = some r
  | [], a, W, r, h => ⟨0, h⟩
  | s :: l, a, W, r, h => by
    simp only [snodes] at h
    split at h
    · rename_i a1 W1 h1
      obtain ⟨n, hn⟩ : ∃ n, snode P (rcall P orc n) s a W = some (a1, W1) := by
        cases s with
        | seg ms outs => exact ⟨0, h1⟩
        | raw s => exact steps_tells hc h1
      obtain ⟨m, hm⟩ := nodes_tells hc l a1 W1 r h
      have hm' := nrun_more (Nat.le_max_right n m) hm
      have hn' : snodes P (rcall P orc n) [s] a W = some (a1, W1) := by simp only [snodes, hn]
      have hn'' := nrun_more (Nat.le_max_left n m) hn'
      simp only [snodes] at hn''
      refine ⟨max n m, ?_⟩
      simp only [snodes]
      split at hn''
      · rename_i a2 W2 h2; cases hn''; exact hm'
      · cases hn''
    · cases h

theorem draw_tells (hc : Tells P orc call) {base : Nat} : ∀ (l : List RStep) (recs : List Rec) (a : CAct) (W : CW) (r : CAct × CW), rdraw P call base l recs a W = some r → ∃ n, rdraw P (rcall P orc n) base l recs a W = some r
  | [], recs, a, W, r, h => ⟨0, h⟩
  | s :: l, recs, a, W, r, h => by
    simp only [rdraw] at h
    split at h
    · rename_i v W1 rc h1
      obtain ⟨n, hn⟩ : ∃ n, dstep P (rcall P orc n) base s recs (sub a s.look) W = some (v, W1, rc) := by
        unfold dstep at h1
        split at h1
        · cases h1
        · rename_i hw; exact ⟨0, by unfold dstep; simp only [hw]; exact h1⟩
        · rename_i hw
          split at h1
          · rename_i o ho; exact ⟨0, by unfold dstep; simp only [hw, ho]; exact h1⟩
          · rename_i o ho; exact ⟨0, by unfold dstep; simp only [hw, ho]; exact h1⟩
          · rename_i o ho; exact ⟨0, by unfold dstep; simp only [hw, ho]; exact h1⟩
          · rename_i o ho
            split at h1
            · rename_i u W2 h2
              obtain ⟨n, hn⟩ := doX_tells hc h2
              exact ⟨n, by unfold dstep; simp only [hw, ho, hn]; exact h1⟩
            · cases h1
      obtain ⟨m, hm⟩ := draw_tells hc l _ _ _ r h
      have hm' := drun_more (Nat.le_max_right n m) hm
      have hn' : rdraw P (rcall P orc n) base [s] recs a W = some (putd a s.dst v, W1) := by simp only [rdraw, hn]
      refine ⟨max n m, ?_⟩
      have e : dstep P (rcall P orc (max n m)) base s recs (sub a s.look) W = some (v, W1, rc) := by
        have := rcall_more P orc n (max n m) (Nat.le_max_left n m)
        unfold dstep at hn ⊢
        split at hn
        · cases hn
        · exact hn
        · split at hn
          · exact hn
          · exact hn
          · exact hn
          · split at hn
            · rename_i h2; simp only [doX_more this h2]; exact hn
            · cases hn
      simp only [rdraw, e]; exact hm'
    · cases h

theorem exec_tells (hc : Tells P orc call) (m : Nat) : ∀ (S : SCode) (a : CAct) (W : CW) (r : CExit × CAct × CW), execK P call m S a W = some r → SRuns P orc S a W fun e a W => (e, a, W) = r := by
  have run1 : ∀ {S : SCode} {a : CAct} {W : CW} {r : CExit × CAct × CW}, Run P orc (fun e a W => (e, a, W) = r) S [] a W ↔ SRuns P orc S a W fun e a W => (e, a, W) = r := by
    intro S a W r
    constructor
    · intro h; exact SRuns.mono h fun e a W q => by rwa [ret_nil] at q
    · intro h; exact SRuns.mono h fun e a W q => by rwa [ret_nil]
  intro S
  induction S with
  | skip =>
    intro a W r h
    rw [← run1, run_skip, ret_nil]
    exact Option.some.inj h
  | exit id =>
    intro a W r h
    rw [← run1, run_exit, ret_nil]
    exact Option.some.inj h
  | ret =>
    intro a W r h
    rw [← run1, run_ret, ret_nil]
    exact Option.some.inj h
  | segs l =>
    intro a W r h
    obtain ⟨a1, W1, h1, rfl⟩ := thenK_some (show (thenK (nodesK P call l a W) fun a W => some (.normal, a, W)) = some r from h)
    rw [nodesK_eq] at h1
    obtain ⟨n, hn⟩ := nodes_tells hc l a W _ h1
    rw [← run1, run_segs]
    exact ⟨n, a1, W1, hn, by rw [ret_nil]⟩
  | quiet k ms outs =>
    intro a W r h
    have h' : Bool.rec (motive := fun _ => KRes) none (some (.normal, outK P a W outs, W.reserve k)) (mustsK P a W ms) = some r := h
    rw [mustsK_eq, outK_eq] at h'
    rw [← run1, run_quiet, ret_nil]
    cases hm : mustsOk P a W ms with
    | false => rw [hm] at h'; cases h'
    | true => rw [hm] at h'; exact ⟨rfl, Option.some.inj h'⟩
  | draw ops =>
    intro a W r h
    obtain ⟨a1, W1, h1, rfl⟩ := thenK_some (show (thenK (rdraw P call W.next ops [] a (W.reserve ops.length)) fun a W => some (.normal, a, W)) = some r from h)
    obtain ⟨n, hn⟩ := draw_tells hc ops _ _ _ _ h1
    rw [← run1, run_draw]
    exact ⟨n, a1, W1, hn, by rw [ret_nil]⟩
  | seq x y hx hy =>
    intro a W r h
    rw [← run1, run_seq]
    rcases onK_some (show onK (execK P call m x a W) (execK P call m y) = some r from h) with ⟨a1, W1, h1, h2⟩ | ⟨h1, h2⟩
    · refine SRuns.mono (hx a W _ h1) fun e a' W' q => ?_
      cases q
      rw [ret_seq, run1]
      exact hy _ _ _ h2
    · refine SRuns.mono (hx a W _ h1) fun e a' W' q => ?_
      subst q
      cases e with
      | normal => exact absurd rfl h2
      | exit i => rw [ret_seq_exit, ret_nil]
      | ret => rw [ret_seq_ret, ret_nil]
  | cond c x y hx hy =>
    intro a W r h
    rw [← run1, run_cond]
    have h' : condK (rxK a c) (execK P call m x a W) (execK P call m y a W) = some r := h
    rw [rxK_eq] at h'
    unfold condK at h'
    split at h'
    · rename_i b hb
      rw [hb]
      cases b with
      | true => rw [runC_true, run1]; exact hx _ _ _ h'
      | false => rw [runC_false, run1]; exact hy _ _ _ h'
    · cases h'
  | block id b hb =>
    intro a W r h
    rw [← run1, run_block]
    have h' : blockK id (execK P call m b a W) = some r := h
    cases hq : execK P call m b a W with
    | none => rw [hq] at h'; cases h'
    | some x =>
      rw [hq] at h'
      obtain ⟨e, a1, W1⟩ := x
      refine SRuns.mono (hb a W _ hq) fun e' a' W' q => ?_
      cases q
      cases e with
      | normal => rw [ret_block, ret_nil]; exact Option.some.inj h'
      | ret => rw [ret_block_ret, ret_nil]; exact Option.some.inj h'
      | exit i =>
        rw [ret_block_exit]
        have h2 : (Bool.casesOn (motive := fun _ => KRes) (Nat.beq i id) (some (.exit i, a1, W1)) (some (.normal, a1, W1))) = some r := h'
        rw [Tr.beq_cases] at h2
        by_cases hi : i = id
        · rw [if_pos hi] at h2 ⊢; rw [ret_nil]; exact Option.some.inj h2
        · rw [if_neg hi] at h2 ⊢; rw [ret_nil]; exact Option.some.inj h2
  | loop norm b hb =>
    have key : ∀ (j : Nat) (a : CAct) (W : CW) (r : CExit × CAct × CW), Nat.rec (motive := fun _ => CAct → CW → KRes) (fun _ _ => none) (fun _ r a W => onK (execK P call m b a W) fun a W => r (keepK a norm) W) j a W = some r → SRuns P orc (.loop norm b) a W fun e a W => (e, a, W) = r := by
      intro j
      induction j with
      | zero => intro a W r h; cases h
      | succ j ih =>
        intro a W r h
        rw [← run1, run_loop]
        rcases onK_some h with ⟨a1, W1, h1, h2⟩ | ⟨h1, h2⟩
        · refine SRuns.mono (hb a W _ h1) fun e a' W' q => ?_
          cases q
          rw [ret_loop, run1]
          have h3 := ih _ _ _ h2
          rw [keepK_eq] at h3
          exact h3
        · refine SRuns.mono (hb a W _ h1) fun e a' W' q => ?_
          subst q
          cases e with
          | normal => exact absurd rfl h2
          | exit i => rw [ret_loop_exit, ret_nil]
          | ret => rw [ret_loop_ret, ret_nil]
    intro a W r h
    exact key m a W r h
end

/-- A function's end. -/
noncomputable def endK (res : List (Nat × Option (Option Nat))) (r : KRes) : Option (Value × CW) :=
  match r with
  | some (.exit _, _, _) => none
  | some (_, a, W') => match resultsL a W' res with
    | some vs => some (resultOf vs, W')
    | none => none
  | none => none

/-- A call, d deep at most. -/
noncomputable def callK (P : Program) (T : Tab) (m d : Nat) : CCall :=
  Nat.rec (motive := fun _ => CCall) (fun _ _ _ => none) (fun _ call f args W => Option.rec (motive := fun _ => Option (Value × CW)) none (fun x => Prod.rec (motive := fun _ => Option (Value × CW)) (fun S res => endK res (execK P call m S (params 0 args .nil) W)) x) (Tab.find T f)) d

theorem callK_tells {P : Program} {T : Tab} (ok : TabOk P T) (m : Nat) : ∀ (d : Nat), Tells P noOrc (callK P T m d)
  | 0 => fun f args W v W' h => by cases h
  | d + 1 => fun f args W v W' h => by
    have h' : Option.rec (motive := fun _ => Option (Value × CW)) none (fun x => Prod.rec (motive := fun _ => Option (Value × CW)) (fun S res => endK res (execK P (callK P T m d) m S (params 0 args .nil) W)) x) (Tab.find T f) = some (v, W') := h
    cases hf : Tab.find T f with
    | none => rw [hf] at h'; cases h'
    | some x =>
      obtain ⟨S, res⟩ := x
      rw [hf] at h'
      have h2 : endK res (execK P (callK P T m d) m S (params 0 args .nil) W) = some (v, W') := h'
      obtain ⟨L, hL⟩ := Tab.find_ok ok hf
      have ha : ask noOrc f args W = none := rfl
      unfold endK at h2
      split at h2
      · cases h2
      · rename_i e a1 W1 hno hx
        split at h2
        · rename_i vs hvs
          cases h2
          have hr := exec_tells (callK_tells ok m d) m S _ _ _ hx
          have := enter (P := P) (orc := noOrc) (Q := fun v W => v = resultOf vs ∧ W = W') hL ha (SRuns.mono hr fun e' a' W2 q => by
            cases q
            rw [ret_nil]
            unfold Fin
            cases e with
            | exit i => first | exact hno rfl | exact (hno _ rfl).elim | exact (hno _ _ rfl).elim | exact (hno _ _ _ rfl).elim
            | normal => simp [hvs]
            | ret => simp [hvs])
          obtain ⟨n, v1, W3, k1, rfl, rfl⟩ := this
          exact ⟨n, k1⟩
        · cases h2
      · cases h2

def isTrueK (r : Option (Value × CW)) : Bool :=
  match r with
  | some (.bool c, _) => c
  | _ => false

/-- A run of the kernel's tells a word. -/
theorem callK_wp {P : Program} {T : Tab} (ok : TabOk P T) {m d : Nat} {f : FuncId} (h : isTrueK (callK P T m d f [] .empty) = true) : WpC P noOrc f [] .empty fun v _ => v = .bool true := by
  cases hc : callK P T m d f [] .empty with
  | none => rw [hc] at h; cases h
  | some x =>
    obtain ⟨v, W'⟩ := x
    rw [hc] at h
    cases v with
    | bool c =>
      have e : c = true := h
      subst e
      obtain ⟨n, hn⟩ := callK_tells ok m d f [] .empty _ _ hc
      exact ⟨n, _, _, hn, rfl⟩
    | _ => cases h

theorem rcall_wp {P : Program} {n : Nat} {f : FuncId} (h : isTrueK (rcall P noOrc n f [] .empty) = true) : WpC P noOrc f [] .empty fun v _ => v = .bool true := by
  cases hc : rcall P noOrc n f [] .empty with
  | none => rw [hc] at h; cases h
  | some x =>
    obtain ⟨v, W'⟩ := x
    rw [hc] at h
    cases v with
    | bool c =>
      have e : c = true := h
      subst e
      exact ⟨n, _, _, hc, rfl⟩
    | _ => cases h

end Go.Can
