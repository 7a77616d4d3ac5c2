/-
  Canonical code made short: symbolic runs. What is left to do is a list, so that a rewriting goes step by step and never looks ahead.
-/
import Derived.Test.YtcilkncmhmckmaaGreatCanZP
namespace Go.Can
open Go
set_option linter.all false

/-- What is left to do behind a piece of code. -/
inductive Kf where
  | seq (y : SCode)
  | block (id : Nat)
  | loop (norm : List Nat) (b : SCode)

def SRuns (P : Program) (orc : Orc) (S : SCode) (a : CAct) (W : CW) (Q : CExit → CAct → CW → Prop) : Prop :=
  ∃ n e a' W', sexec P (rcall P orc n) n S a W = some (e, a', W') ∧ Q e a' W'

def NRuns (P : Program) (orc : Orc) (l : List SN) (a : CAct) (W : CW) (Q : CAct → CW → Prop) : Prop :=
  ∃ n a' W', snodes P (rcall P orc n) l a W = some (a', W') ∧ Q a' W'

def DRuns (P : Program) (orc : Orc) (base : Nat) (l : List RStep) (recs : List Rec) (a : CAct) (W : CW) (Q : CAct → CW → Prop) : Prop :=
  ∃ n a' W', rdraw P (rcall P orc n) base l recs a W = some (a', W') ∧ Q a' W'

/-- A call ends, and answers so. -/
def WpC (P : Program) (orc : Orc) (f : FuncId) (args : List Value) (W : CW) (Q : Value → CW → Prop) : Prop :=
  ∃ n v W', rcall P orc n f args W = some (v, W') ∧ Q v W'

theorem WpC.mono {P : Program} {orc : Orc} {f : FuncId} {args : List Value} {W : CW} {Q R : Value → CW → Prop} (h : WpC P orc f args W Q) (hm : ∀ v W', Q v W' → R v W') : WpC P orc f args W R := by
  obtain ⟨n, v, W', h1, h2⟩ := h
  exact ⟨n, v, W', h1, hm _ _ h2⟩

section
variable {P : Program} {orc : Orc}

theorem srun_more {n m : Nat} (h : n ≤ m) {S : SCode} {a : CAct} {W : CW} {r : CExit × CAct × CW} (hv : sexec P (rcall P orc n) n S a W = some r) : sexec P (rcall P orc m) m S a W = some r :=
  sexec_more (rcall_more P orc n m h) n m h S a W r hv

theorem nrun_more {n m : Nat} (h : n ≤ m) {l : List SN} {a : CAct} {W : CW} {r : CAct × CW} (hv : snodes P (rcall P orc n) l a W = some r) : snodes P (rcall P orc m) l a W = some r :=
  snodes_more (rcall_more P orc n m h) l a W r hv

theorem drun_more {n m : Nat} (h : n ≤ m) {base : Nat} {l : List RStep} {recs : List Rec} {a : CAct} {W : CW} {r : CAct × CW} (hv : rdraw P (rcall P orc n) base l recs a W = some r) : rdraw P (rcall P orc m) base l recs a W = some r :=
  rdraw_more (rcall_more P orc n m h) l recs a W r hv

theorem call_more {n m : Nat} (h : n ≤ m) {f : FuncId} {args : List Value} {W : CW} {r : Value × CW} (hv : rcall P orc n f args W = some r) : rcall P orc m f args W = some r :=
  rcall_more P orc n m h f args W r hv

theorem step_more {n m : Nat} (h : n ≤ m) {l : List RStep} {a : CAct} {W : CW} {r : CAct × CW} (hv : rsteps P (rcall P orc n) l a W = some r) : rsteps P (rcall P orc m) l a W = some r :=
  rsteps_more (rcall_more P orc n m h) l a W r hv

theorem SRuns.mono {S : SCode} {a : CAct} {W : CW} {Q R : CExit → CAct → CW → Prop} (h : SRuns P orc S a W Q) (hm : ∀ e a' W', Q e a' W' → R e a' W') : SRuns P orc S a W R := by
  obtain ⟨n, e, a', W', h1, h2⟩ := h
  exact ⟨n, e, a', W', h1, hm _ _ _ h2⟩

/-- What is done behind a piece of code. -/
def Ret (P : Program) (orc : Orc) (Q : CExit → CAct → CW → Prop) : List Kf → CExit → CAct → CW → Prop
  | [], e, a, W => Q e a W
  | .seq y :: K, .normal, a, W => SRuns P orc y a W (Ret P orc Q K)
  | .seq _ :: K, e, a, W => Ret P orc Q K e a W
  | .block id :: K, .exit i, a, W => if i = id then Ret P orc Q K .normal a W else Ret P orc Q K (.exit i) a W
  | .block _ :: K, e, a, W => Ret P orc Q K e a W
  | .loop norm b :: K, .normal, a, W => SRuns P orc (.loop norm b) (keepF a norm) W (Ret P orc Q K)
  | .loop _ _ :: K, e, a, W => Ret P orc Q K e a W

def Run (P : Program) (orc : Orc) (Q : CExit → CAct → CW → Prop) (S : SCode) (K : List Kf) (a : CAct) (W : CW) : Prop := SRuns P orc S a W (Ret P orc Q K)

def RunN (P : Program) (orc : Orc) (Q : CExit → CAct → CW → Prop) (l : List SN) (K : List Kf) (a : CAct) (W : CW) : Prop := NRuns P orc l a W (Ret P orc Q K .normal)

def RunD (P : Program) (orc : Orc) (Q : CExit → CAct → CW → Prop) (base : Nat) (l : List RStep) (recs : List Rec) (K : List Kf) (a : CAct) (W : CW) : Prop := DRuns P orc base l recs a W (Ret P orc Q K .normal)

variable {Q : CExit → CAct → CW → Prop} {K : List Kf} {a : CAct} {W : CW}

theorem ret_nil {e : CExit} : Ret P orc Q [] e a W ↔ Q e a W := by simp only [Ret]
theorem ret_seq {y : SCode} : Ret P orc Q (.seq y :: K) .normal a W ↔ Run P orc Q y K a W := by simp only [Ret, Run]
theorem ret_seq_exit {y : SCode} {i : Nat} : Ret P orc Q (.seq y :: K) (.exit i) a W ↔ Ret P orc Q K (.exit i) a W := by simp only [Ret]
theorem ret_seq_ret {y : SCode} : Ret P orc Q (.seq y :: K) .ret a W ↔ Ret P orc Q K .ret a W := by simp only [Ret]
theorem ret_block {i : Nat} : Ret P orc Q (.block i :: K) .normal a W ↔ Ret P orc Q K .normal a W := by simp only [Ret]
theorem ret_block_ret {i : Nat} : Ret P orc Q (.block i :: K) .ret a W ↔ Ret P orc Q K .ret a W := by simp only [Ret]
theorem ret_block_exit {i j : Nat} : Ret P orc Q (.block i :: K) (.exit j) a W ↔ (if j = i then Ret P orc Q K .normal a W else Ret P orc Q K (.exit j) a W) := by simp only [Ret]
theorem ret_loop {norm : List Nat} {b : SCode} : Ret P orc Q (.loop norm b :: K) .normal a W ↔ Run P orc Q (.loop norm b) K (keepF a norm) W := by simp only [Ret, Run]
theorem ret_loop_exit {norm : List Nat} {b : SCode} {i : Nat} : Ret P orc Q (.loop norm b :: K) (.exit i) a W ↔ Ret P orc Q K (.exit i) a W := by simp only [Ret]
theorem ret_loop_ret {norm : List Nat} {b : SCode} : Ret P orc Q (.loop norm b :: K) .ret a W ↔ Ret P orc Q K .ret a W := by simp only [Ret]

theorem run_skip : Run P orc Q .skip K a W ↔ Ret P orc Q K .normal a W := by
  constructor
  · rintro ⟨n, e, a', W', h, q⟩
    cases n with
    | zero => cases h
    | succ n => simp only [sexec, Option.some.injEq, Prod.mk.injEq] at h; obtain ⟨rfl, rfl, rfl⟩ := h; exact q
  · intro q; exact ⟨1, .normal, a, W, rfl, q⟩

theorem run_exit {i : Nat} : Run P orc Q (.exit i) K a W ↔ Ret P orc Q K (.exit i) a W := by
  constructor
  · rintro ⟨n, e, a', W', h, q⟩
    cases n with
    | zero => cases h
    | succ n => simp only [sexec, Option.some.injEq, Prod.mk.injEq] at h; obtain ⟨rfl, rfl, rfl⟩ := h; exact q
  · intro q; exact ⟨1, _, a, W, rfl, q⟩

theorem run_ret : Run P orc Q .ret K a W ↔ Ret P orc Q K .ret a W := by
  constructor
  · rintro ⟨n, e, a', W', h, q⟩
    cases n with
    | zero => cases h
    | succ n => simp only [sexec, Option.some.injEq, Prod.mk.injEq] at h; obtain ⟨rfl, rfl, rfl⟩ := h; exact q
  · intro q; exact ⟨1, _, a, W, rfl, q⟩

theorem run_seq {x y : SCode} : Run P orc Q (.seq x y) K a W ↔ Run P orc Q x (.seq y :: K) a W := by
  constructor
  · rintro ⟨n, e, a', W', h, q⟩
    cases n with
    | zero => cases h
    | succ n =>
      simp only [sexec] at h
      split at h
      · rename_i a1 W1 h1
        refine ⟨n + 1, .normal, a1, W1, sexec_more (fun _ _ _ _ h => h) n (n + 1) (by omega) _ _ _ _ h1, ?_⟩
        rw [ret_seq]
        exact ⟨n + 1, e, a', W', sexec_more (fun _ _ _ _ h => h) n (n + 1) (by omega) _ _ _ _ h, q⟩
      · rename_i hno
        refine ⟨n + 1, e, a', W', sexec_more (fun _ _ _ _ h => h) n (n + 1) (by omega) _ _ _ _ h, ?_⟩
        cases e with
        | normal => exact absurd h (hno _ _)
        | exit i => rw [ret_seq_exit]; exact q
        | ret => rw [ret_seq_ret]; exact q
  · rintro ⟨n, e, a', W', h, q⟩
    cases e with
    | normal =>
      rw [ret_seq] at q
      obtain ⟨m, e2, a2, W2, h2, q2⟩ := q
      have h' := srun_more (Nat.le_max_left n m) h
      have h2' := srun_more (Nat.le_max_right n m) h2
      refine ⟨max n m + 1, e2, a2, W2, ?_, q2⟩
      have c : CMore (rcall P orc (max n m)) (rcall P orc (max n m + 1)) := rcall_more P orc _ _ (by omega)
      simp only [sexec, sexec_more c _ _ (Nat.le_refl _) _ _ _ _ h', sexec_more c _ _ (Nat.le_refl _) _ _ _ _ h2']
    | exit i =>
      rw [ret_seq_exit] at q
      refine ⟨n + 1, _, a', W', ?_, q⟩
      have c : CMore (rcall P orc n) (rcall P orc (n + 1)) := rcall_more P orc _ _ (by omega)
      simp only [sexec, sexec_more c _ _ (Nat.le_refl _) _ _ _ _ h]
    | ret =>
      rw [ret_seq_ret] at q
      refine ⟨n + 1, _, a', W', ?_, q⟩
      have c : CMore (rcall P orc n) (rcall P orc (n + 1)) := rcall_more P orc _ _ (by omega)
      simp only [sexec, sexec_more c _ _ (Nat.le_refl _) _ _ _ _ h]

theorem run_block {i : Nat} {b : SCode} : Run P orc Q (.block i b) K a W ↔ Run P orc Q b (.block i :: K) a W := by
  constructor
  · rintro ⟨n, e, a', W', h, q⟩
    cases n with
    | zero => cases h
    | succ n =>
      simp only [sexec] at h
      split at h
      · rename_i j a1 W1 h1
        refine ⟨n + 1, .exit j, a1, W1, sexec_more (fun _ _ _ _ h => h) n (n + 1) (by omega) _ _ _ _ h1, ?_⟩
        rw [ret_block_exit]
        split at h
        · rename_i hj; rw [if_pos hj]; cases h; exact q
        · rename_i hj; rw [if_neg hj]; cases h; exact q
      · rename_i hno
        refine ⟨n + 1, e, a', W', sexec_more (fun _ _ _ _ h => h) n (n + 1) (by omega) _ _ _ _ h, ?_⟩
        cases e with
        | exit j => exact absurd h (hno _ _ _)
        | normal => rw [ret_block]; exact q
        | ret => rw [ret_block_ret]; exact q
  · rintro ⟨n, e, a', W', h, q⟩
    have c : CMore (rcall P orc n) (rcall P orc (n + 1)) := rcall_more P orc _ _ (by omega)
    have h' := sexec_more c _ _ (Nat.le_refl _) _ _ _ _ h
    cases e with
    | normal => rw [ret_block] at q; exact ⟨n + 1, _, a', W', by simp only [sexec, h'], q⟩
    | ret => rw [ret_block_ret] at q; exact ⟨n + 1, _, a', W', by simp only [sexec, h'], q⟩
    | exit j =>
      rw [ret_block_exit] at q
      by_cases hj : j = i
      · rw [if_pos hj] at q; exact ⟨n + 1, .normal, a', W', by simp only [sexec, h', if_pos hj], q⟩
      · rw [if_neg hj] at q; exact ⟨n + 1, .exit j, a', W', by simp only [sexec, h', if_neg hj], q⟩

theorem run_loop {norm : List Nat} {b : SCode} : Run P orc Q (.loop norm b) K a W ↔ Run P orc Q b (.loop norm b :: K) a W := by
  constructor
  · rintro ⟨n, e, a', W', h, q⟩
    cases n with
    | zero => cases h
    | succ n =>
      rw [sexec_loop] at h
      split at h
      · rename_i a1 W1 h1
        refine ⟨n + 1, .normal, a1, W1, sexec_more (fun _ _ _ _ h => h) n (n + 1) (by omega) _ _ _ _ h1, ?_⟩
        rw [ret_loop]
        exact ⟨n + 1, e, a', W', sexec_more (fun _ _ _ _ h => h) n (n + 1) (by omega) _ _ _ _ h, q⟩
      · rename_i hno
        refine ⟨n + 1, e, a', W', sexec_more (fun _ _ _ _ h => h) n (n + 1) (by omega) _ _ _ _ h, ?_⟩
        cases e with
        | normal => exact absurd h (hno _ _)
        | exit i => rw [ret_loop_exit]; exact q
        | ret => rw [ret_loop_ret]; exact q
  · rintro ⟨n, e, a', W', h, q⟩
    cases e with
    | normal =>
      rw [ret_loop] at q
      obtain ⟨m, e2, a2, W2, h2, q2⟩ := q
      have h' := srun_more (Nat.le_max_left n m) h
      have h2' := srun_more (Nat.le_max_right n m) h2
      refine ⟨max n m + 1, e2, a2, W2, ?_, q2⟩
      have c : CMore (rcall P orc (max n m)) (rcall P orc (max n m + 1)) := rcall_more P orc _ _ (by omega)
      rw [sexec_loop]
      simp only [sexec_more c _ _ (Nat.le_refl _) _ _ _ _ h', sexec_more c _ _ (Nat.le_refl _) _ _ _ _ h2']
    | exit i =>
      rw [ret_loop_exit] at q
      refine ⟨n + 1, _, a', W', ?_, q⟩
      have c : CMore (rcall P orc n) (rcall P orc (n + 1)) := rcall_more P orc _ _ (by omega)
      rw [sexec_loop]
      simp only [sexec_more c _ _ (Nat.le_refl _) _ _ _ _ h]
    | ret =>
      rw [ret_loop_ret] at q
      refine ⟨n + 1, _, a', W', ?_, q⟩
      have c : CMore (rcall P orc n) (rcall P orc (n + 1)) := rcall_more P orc _ _ (by omega)
      rw [sexec_loop]
      simp only [sexec_more c _ _ (Nat.le_refl _) _ _ _ _ h]

def RunC (P : Program) (orc : Orc) (Q : CExit → CAct → CW → Prop) (c : Option Value) (x y : SCode) (K : List Kf) (a : CAct) (W : CW) : Prop :=
  match c with
  | some (.bool true) => Run P orc Q x K a W
  | some (.bool false) => Run P orc Q y K a W
  | _ => False

theorem runC_true {x y : SCode} : RunC P orc Q (some (.bool true)) x y K a W ↔ Run P orc Q x K a W := Iff.rfl
theorem runC_false {x y : SCode} : RunC P orc Q (some (.bool false)) x y K a W ↔ Run P orc Q y K a W := Iff.rfl

theorem run_cond {c : RX} {x y : SCode} : Run P orc Q (.cond c x y) K a W ↔ RunC P orc Q (c.ev a) x y K a W := by
  constructor
  · rintro ⟨n, e, a', W', h, q⟩
    cases n with
    | zero => cases h
    | succ n =>
      simp only [sexec] at h
      split at h
      · rename_i hc; rw [hc]; exact ⟨n + 1, e, a', W', sexec_more (fun _ _ _ _ h => h) n (n + 1) (by omega) _ _ _ _ h, q⟩
      · rename_i hc; rw [hc]; exact ⟨n + 1, e, a', W', sexec_more (fun _ _ _ _ h => h) n (n + 1) (by omega) _ _ _ _ h, q⟩
      · cases h
  · intro h
    unfold RunC at h
    split at h
    · rename_i hc
      obtain ⟨n, e, a', W', h, q⟩ := h
      have cm : CMore (rcall P orc n) (rcall P orc (n + 1)) := rcall_more P orc _ _ (by omega)
      exact ⟨n + 1, e, a', W', by simp only [sexec, hc, sexec_more cm _ _ (Nat.le_refl _) _ _ _ _ h], q⟩
    · rename_i hc
      obtain ⟨n, e, a', W', h, q⟩ := h
      have cm : CMore (rcall P orc n) (rcall P orc (n + 1)) := rcall_more P orc _ _ (by omega)
      exact ⟨n + 1, e, a', W', by simp only [sexec, hc, sexec_more cm _ _ (Nat.le_refl _) _ _ _ _ h], q⟩
    · exact h.elim

theorem run_quiet {k : Nat} {ms : List EX} {outs : List (Nat × EX)} : Run P orc Q (.quiet k ms outs) K a W ↔ mustsOk P a W ms = true ∧ Ret P orc Q K .normal (outF P a W outs) (W.reserve k) := by
  constructor
  · rintro ⟨n, e, a', W', h, q⟩
    cases n with
    | zero => cases h
    | succ n =>
      simp only [sexec] at h
      split at h
      · rename_i hm; cases h; exact ⟨hm, q⟩
      · cases h
  · rintro ⟨hm, q⟩
    exact ⟨1, .normal, _, _, by simp only [sexec, if_pos hm], q⟩

theorem run_segs {l : List SN} : Run P orc Q (.segs l) K a W ↔ RunN P orc Q l K a W := by
  constructor
  · rintro ⟨n, e, a', W', h, q⟩
    cases n with
    | zero => cases h
    | succ n =>
      simp only [sexec] at h
      split at h
      · rename_i a1 W1 h1; cases h; exact ⟨n + 1, _, _, h1, q⟩
      · cases h
  · rintro ⟨n, a', W', h, q⟩
    have := nrun_more (P := P) (orc := orc) (show n ≤ n + 1 by omega) h
    exact ⟨n + 1, .normal, a', W', by simp only [sexec, this], q⟩

theorem run_draw {l : List RStep} : Run P orc Q (.draw l) K a W ↔ RunD P orc Q W.next l [] K a (W.reserve l.length) := by
  constructor
  · rintro ⟨n, e, a', W', h, q⟩
    cases n with
    | zero => cases h
    | succ n =>
      simp only [sexec] at h
      split at h
      · rename_i a1 W1 h1; cases h; exact ⟨n + 1, _, _, h1, q⟩
      · cases h
  · rintro ⟨n, a', W', h, q⟩
    have := drun_more (P := P) (orc := orc) (show n ≤ n + 1 by omega) h
    exact ⟨n + 1, .normal, a', W', by simp only [sexec, this], q⟩

/-! Nodes. -/
def ValN (P : Program) (orc : Orc) (Q : CExit → CAct → CW → Prop) (v : Option Value) (d : Option Nat) (l : List SN) (K : List Kf) (a : CAct) (W : CW) : Prop :=
  match v with
  | some v => RunN P orc Q l K (putd a d v) W
  | none => False

def NewN (P : Program) (orc : Orc) (Q : CExit → CAct → CW → Prop) (ob : Option CObj) (v : Value) (d : Option Nat) (l : List SN) (K : List Kf) (a : CAct) (W : CW) : Prop :=
  match ob with
  | some ob => RunN P orc Q l K (putd a d v) (W.push ob)
  | none => False

def CallN (P : Program) (orc : Orc) (Q : CExit → CAct → CW → Prop) (f : FuncId) (vs : List Value) (d : Option Nat) (l : List SN) (K : List Kf) (a : CAct) (W : CW) : Prop :=
  WpC P orc f vs W fun v W' => RunN P orc Q l K (putd a d v) W'

def XN (P : Program) (orc : Orc) (Q : CExit → CAct → CW → Prop) (r : Option (RNext × CW)) (d : Option Nat) (l : List SN) (K : List Kf) (a : CAct) : Prop :=
  match r with
  | some (.value v, W) => RunN P orc Q l K (putd a d v) W
  | some (.enter f vs, W) => CallN P orc Q f vs d l K a W
  | none => False

def OpN (P : Program) (orc : Orc) (Q : CExit → CAct → CW → Prop) (o : ROp) (d : Option Nat) (l : List SN) (K : List Kf) (a : CAct) (W : CW) : Prop :=
  match o with
  | .p o => ValN P orc Q (pop P a o) d l K a W
  | .l o => ValN P orc Q (lop a o W) d l K a W
  | .a o => NewN P orc Q (aobj a o) (aval a W.next o) d l K a W
  | .x o => XN P orc Q (xop P a o W) d l K a

def StepN (P : Program) (orc : Orc) (Q : CExit → CAct → CW → Prop) (g : Option Bool) (o : ROp) (d : Option Nat) (l : List SN) (K : List Kf) (a : CAct) (W : CW) : Prop :=
  match g with
  | some true => OpN P orc Q o d l K a W
  | some false => RunN P orc Q l K (putd a d undefV) W
  | none => False

section
variable {d : Option Nat} {l : List SN}
theorem valN {v : Value} : ValN P orc Q (some v) d l K a W ↔ RunN P orc Q l K (putd a d v) W := Iff.rfl
theorem newN {ob : CObj} {v : Value} : NewN P orc Q (some ob) v d l K a W ↔ RunN P orc Q l K (putd a d v) (W.push ob) := Iff.rfl
theorem xN_val {v : Value} : XN P orc Q (some (.value v, W)) d l K a ↔ RunN P orc Q l K (putd a d v) W := Iff.rfl
theorem xN_call {f : FuncId} {vs : List Value} : XN P orc Q (some (.enter f vs, W)) d l K a ↔ CallN P orc Q f vs d l K a W := Iff.rfl
theorem opN_p {o : POp} : OpN P orc Q (.p o) d l K a W ↔ ValN P orc Q (pop P a o) d l K a W := Iff.rfl
theorem opN_l {o : LOp} : OpN P orc Q (.l o) d l K a W ↔ ValN P orc Q (lop a o W) d l K a W := Iff.rfl
theorem opN_a {o : AOp} : OpN P orc Q (.a o) d l K a W ↔ NewN P orc Q (aobj a o) (aval a W.next o) d l K a W := Iff.rfl
theorem opN_x {o : XOp} : OpN P orc Q (.x o) d l K a W ↔ XN P orc Q (xop P a o W) d l K a := Iff.rfl
theorem stepN_true {o : ROp} : StepN P orc Q (some true) o d l K a W ↔ OpN P orc Q o d l K a W := Iff.rfl
theorem stepN_false {o : ROp} : StepN P orc Q (some false) o d l K a W ↔ RunN P orc Q l K (putd a d undefV) W := Iff.rfl

theorem CallN.of {f : FuncId} {vs : List Value} {R : Value → CW → Prop} (h : WpC P orc f vs W R) (hr : ∀ v W', R v W' → RunN P orc Q l K (putd a d v) W') : CallN P orc Q f vs d l K a W := h.mono hr

theorem runN_nil : RunN P orc Q [] K a W ↔ Ret P orc Q K .normal a W := by
  constructor
  · rintro ⟨n, a', W', h, q⟩; cases h; exact q
  · intro q; exact ⟨0, a, W, rfl, q⟩

theorem runN_seg {ms : List EX} {outs : List (Nat × EX)} : RunN P orc Q (.seg ms outs :: l) K a W ↔ mustsOk P a W ms = true ∧ RunN P orc Q l K (outF P a W outs) W := by
  constructor
  · rintro ⟨n, a', W', h, q⟩
    simp only [snodes, snode] at h
    by_cases hm : mustsOk P a W ms = true
    · rw [if_pos hm] at h; exact ⟨hm, n, a', W', h, q⟩
    · rw [if_neg hm] at h; cases h
  · rintro ⟨hm, n, a', W', h, q⟩
    exact ⟨n, a', W', by simp only [snodes, snode, if_pos hm]; exact h, q⟩

theorem runN_raw {g : Option (Nat × Bool)} {p : Nat} {lk : List Nat} {o : ROp} : RunN P orc Q (.raw ⟨d, g, p, lk, o⟩ :: l) K a W ↔ StepN P orc Q (wanted a g) o d l K a W := by
  constructor
  · rintro ⟨n, a', W', h, q⟩
    simp only [snodes, snode, rsteps] at h
    unfold StepN
    split at h
    · rename_i a1 W1 h1
      split at h1
      · rename_i hw; simp only [hw]
        split at h1
        · rename_i v W2 hv
          cases h1
          cases o with
          | p o => simp only [doOp] at hv; split at hv <;> cases hv; rename_i hv; simp only [OpN, ValN, hv]; exact ⟨n, a', W', h, q⟩
          | l o => simp only [doOp] at hv; split at hv <;> cases hv; rename_i hv; simp only [OpN, ValN, hv]; exact ⟨n, a', W', h, q⟩
          | a o => simp only [doOp] at hv; split at hv <;> cases hv; rename_i hv; simp only [OpN, NewN, hv]; exact ⟨n, a', W', h, q⟩
          | x o =>
            simp only [doOp, doX] at hv
            split at hv
            · rename_i h2; cases hv; simp only [OpN, XN, h2]; exact ⟨n, a', W', h, q⟩
            · rename_i h2; simp only [OpN, XN, h2]; exact ⟨n, v, W1, hv, n, a', W', h, q⟩
            · cases hv
        · cases h1
      · rename_i hw; simp only [hw]; cases h1; exact ⟨n, a', W', h, q⟩
      · cases h1
    · cases h
  · intro h
    unfold StepN at h
    split at h
    · rename_i hw
      cases o with
      | p o =>
        simp only [OpN, ValN] at h; split at h
        · rename_i hv; obtain ⟨n, a', W', h, q⟩ := h; exact ⟨n, a', W', by simp only [snodes, snode, rsteps, hw, doOp, hv]; exact h, q⟩
        · exact h.elim
      | l o =>
        simp only [OpN, ValN] at h; split at h
        · rename_i hv; obtain ⟨n, a', W', h, q⟩ := h; exact ⟨n, a', W', by simp only [snodes, snode, rsteps, hw, doOp, hv]; exact h, q⟩
        · exact h.elim
      | a o =>
        simp only [OpN, NewN] at h; split at h
        · rename_i hv; obtain ⟨n, a', W', h, q⟩ := h; exact ⟨n, a', W', by simp only [snodes, snode, rsteps, hw, doOp, hv]; exact h, q⟩
        · exact h.elim
      | x o =>
        simp only [OpN, XN] at h; split at h
        · rename_i hv; obtain ⟨n, a', W', h, q⟩ := h; exact ⟨n, a', W', by simp only [snodes, snode, rsteps, hw, doOp, doX, hv]; exact h, q⟩
        · rename_i hv
          obtain ⟨n, v, W1, hc, m, a', W', h, q⟩ := h
          have hc' := call_more (Nat.le_max_left n m) hc
          have h' := nrun_more (Nat.le_max_right n m) h
          exact ⟨max n m, a', W', by simp only [snodes, snode, rsteps, hw, doOp, doX, hv, hc']; exact h', q⟩
        · exact h.elim
    · rename_i hw; obtain ⟨n, a', W', h, q⟩ := h; exact ⟨n, a', W', by simp only [snodes, snode, rsteps, hw]; exact h, q⟩
    · exact h.elim
end

/-! Drawn regions. -/
def ValD (P : Program) (orc : Orc) (Q : CExit → CAct → CW → Prop) (v : Option Value) (r : Rec) (base : Nat) (d : Option Nat) (l : List RStep) (recs : List Rec) (K : List Kf) (a : CAct) (W : CW) : Prop :=
  match v with
  | some v => RunD P orc Q base l (recs ++ [r]) K (putd a d v) W
  | none => False

def SpanD (P : Program) (orc : Orc) (Q : CExit → CAct → CW → Prop) (sp : Option (Nat × Nat)) (v : Option Value) (b p base : Nat) (d : Option Nat) (l : List RStep) (recs : List Rec) (K : List Kf) (a : CAct) (W : CW) : Prop :=
  match sp with
  | some (lo, hi) => okL p b lo hi recs 0 = true ∧ ValD P orc Q v (.l b lo hi) base d l recs K a W
  | none => okM p b recs 0 = true ∧ ValD P orc Q v (.m b) base d l recs K a W

def ObD (P : Program) (orc : Orc) (Q : CExit → CAct → CW → Prop) (ob : Option CObj) (o : LOp) (b p base : Nat) (d : Option Nat) (l : List RStep) (recs : List Rec) (K : List Kf) (s a : CAct) (W : CW) : Prop :=
  match ob with
  | some ob => SpanD P orc Q (lspan s o) (lval s o ob) b p base d l recs K a W
  | none => False

def LoadD (P : Program) (orc : Orc) (Q : CExit → CAct → CW → Prop) (t : Option LT) (o : LOp) (p base : Nat) (d : Option Nat) (l : List RStep) (recs : List Rec) (K : List Kf) (s a : CAct) (W : CW) : Prop :=
  match t with
  | some (.val v) => RunD P orc Q base l (recs ++ [.p]) K (putd a d v) W
  | some (.blk b) => ObD P orc Q (W.get b) o b p base d l recs K s a W
  | none => False

def NewD (P : Program) (orc : Orc) (Q : CExit → CAct → CW → Prop) (ob : Option CObj) (v : Value) (b base : Nat) (d : Option Nat) (l : List RStep) (recs : List Rec) (K : List Kf) (a : CAct) (W : CW) : Prop :=
  match ob with
  | some ob => RunD P orc Q base l (recs ++ [.a b]) K (putd a d v) (W.bear b ob)
  | none => False

/-- Behind a step that may have written. -/
def BackD (P : Program) (orc : Orc) (Q : CExit → CAct → CW → Prop) (v : Value) (W' : CW) (p base : Nat) (d : Option Nat) (l : List RStep) (recs : List Rec) (K : List Kf) (a : CAct) (W : CW) : Prop :=
  okX p W'.log recs 0 = true ∧ RunD P orc Q base l (recs ++ [.x W'.log]) K (putd a d v) ((unmaskL W W' (masks p recs 0)).relog (W'.log ++ W.log))

def CallD (P : Program) (orc : Orc) (Q : CExit → CAct → CW → Prop) (f : FuncId) (vs : List Value) (W0 : CW) (p base : Nat) (d : Option Nat) (l : List RStep) (recs : List Rec) (K : List Kf) (a : CAct) (W : CW) : Prop :=
  WpC P orc f vs W0 fun v W' => BackD P orc Q v W' p base d l recs K a W

def XD (P : Program) (orc : Orc) (Q : CExit → CAct → CW → Prop) (r : Option (RNext × CW)) (p base : Nat) (d : Option Nat) (l : List RStep) (recs : List Rec) (K : List Kf) (a : CAct) (W : CW) : Prop :=
  match r with
  | some (.value v, W') => BackD P orc Q v W' p base d l recs K a W
  | some (.enter f vs, W') => CallD P orc Q f vs W' p base d l recs K a W
  | none => False

def OpD (P : Program) (orc : Orc) (Q : CExit → CAct → CW → Prop) (o : ROp) (p base : Nat) (d : Option Nat) (l : List RStep) (recs : List Rec) (K : List Kf) (s a : CAct) (W : CW) : Prop :=
  match o with
  | .p o => ValD P orc Q (pop P s o) .p base d l recs K a W
  | .l o => LoadD P orc Q (ltarget s o) o p base d l recs K s a W
  | .a o => NewD P orc Q (aobj s o) (aval s (base + recs.length) o) (base + recs.length) base d l recs K a W
  | .x o => XD P orc Q (xop P s o ((maskL W (masks p recs 0)).relog [])) p base d l recs K a W

def StepD (P : Program) (orc : Orc) (Q : CExit → CAct → CW → Prop) (g : Option Bool) (o : ROp) (p base : Nat) (d : Option Nat) (l : List RStep) (recs : List Rec) (K : List Kf) (s a : CAct) (W : CW) : Prop :=
  match g with
  | some true => OpD P orc Q o p base d l recs K s a W
  | some false => RunD P orc Q base l (recs ++ [.p]) K (putd a d undefV) W
  | none => False

section
variable {d : Option Nat} {l : List RStep} {recs : List Rec} {p base : Nat} {s : CAct}
theorem valD {v : Value} {r : Rec} : ValD P orc Q (some v) r base d l recs K a W ↔ RunD P orc Q base l (recs ++ [r]) K (putd a d v) W := Iff.rfl
theorem spanD_some {lo hi b : Nat} {v : Option Value} : SpanD P orc Q (some (lo, hi)) v b p base d l recs K a W ↔ okL p b lo hi recs 0 = true ∧ ValD P orc Q v (.l b lo hi) base d l recs K a W := Iff.rfl
theorem spanD_none {b : Nat} {v : Option Value} : SpanD P orc Q none v b p base d l recs K a W ↔ okM p b recs 0 = true ∧ ValD P orc Q v (.m b) base d l recs K a W := Iff.rfl
theorem obD {ob : CObj} {o : LOp} {b : Nat} : ObD P orc Q (some ob) o b p base d l recs K s a W ↔ SpanD P orc Q (lspan s o) (lval s o ob) b p base d l recs K a W := Iff.rfl
theorem loadD_val {v : Value} {o : LOp} : LoadD P orc Q (some (.val v)) o p base d l recs K s a W ↔ RunD P orc Q base l (recs ++ [.p]) K (putd a d v) W := Iff.rfl
theorem loadD_blk {b : Nat} {o : LOp} : LoadD P orc Q (some (.blk b)) o p base d l recs K s a W ↔ ObD P orc Q (W.get b) o b p base d l recs K s a W := Iff.rfl
theorem newD {ob : CObj} {v : Value} {b : Nat} : NewD P orc Q (some ob) v b base d l recs K a W ↔ RunD P orc Q base l (recs ++ [.a b]) K (putd a d v) (W.bear b ob) := Iff.rfl
theorem xD_val {v : Value} {W' : CW} : XD P orc Q (some (.value v, W')) p base d l recs K a W ↔ BackD P orc Q v W' p base d l recs K a W := Iff.rfl
theorem xD_call {f : FuncId} {vs : List Value} {W' : CW} : XD P orc Q (some (.enter f vs, W')) p base d l recs K a W ↔ CallD P orc Q f vs W' p base d l recs K a W := Iff.rfl
theorem opD_p {o : POp} : OpD P orc Q (.p o) p base d l recs K s a W ↔ ValD P orc Q (pop P s o) .p base d l recs K a W := Iff.rfl
theorem opD_l {o : LOp} : OpD P orc Q (.l o) p base d l recs K s a W ↔ LoadD P orc Q (ltarget s o) o p base d l recs K s a W := Iff.rfl
theorem opD_a {o : AOp} : OpD P orc Q (.a o) p base d l recs K s a W ↔ NewD P orc Q (aobj s o) (aval s (base + recs.length) o) (base + recs.length) base d l recs K a W := Iff.rfl
theorem opD_x {o : XOp} : OpD P orc Q (.x o) p base d l recs K s a W ↔ XD P orc Q (xop P s o ((maskL W (masks p recs 0)).relog [])) p base d l recs K a W := Iff.rfl
theorem stepD_true {o : ROp} : StepD P orc Q (some true) o p base d l recs K s a W ↔ OpD P orc Q o p base d l recs K s a W := Iff.rfl
theorem stepD_false {o : ROp} : StepD P orc Q (some false) o p base d l recs K s a W ↔ RunD P orc Q base l (recs ++ [.p]) K (putd a d undefV) W := Iff.rfl
theorem backD {v : Value} {W' : CW} : BackD P orc Q v W' p base d l recs K a W ↔ okX p W'.log recs 0 = true ∧ RunD P orc Q base l (recs ++ [.x W'.log]) K (putd a d v) ((unmaskL W W' (masks p recs 0)).relog (W'.log ++ W.log)) := Iff.rfl

theorem CallD.of {f : FuncId} {vs : List Value} {W0 : CW} {R : Value → CW → Prop} (h : WpC P orc f vs W0 R) (hr : ∀ v W', R v W' → BackD P orc Q v W' p base d l recs K a W) : CallD P orc Q f vs W0 p base d l recs K a W := h.mono hr

theorem runD_nil : RunD P orc Q base [] recs K a W ↔ Ret P orc Q K .normal a W := by
  constructor
  · rintro ⟨n, a', W', h, q⟩; cases h; exact q
  · intro q; exact ⟨0, a, W, rfl, q⟩

theorem runD_cons {g : Option (Nat × Bool)} {lk : List Nat} {o : ROp} : RunD P orc Q base (⟨d, g, p, lk, o⟩ :: l) recs K a W ↔ StepD P orc Q (wanted (sub a lk) g) o p base d l recs K (sub a lk) a W := by
  constructor
  · rintro ⟨n, a', W', h, q⟩
    simp only [rdraw] at h
    unfold StepD
    split at h
    · rename_i v W1 rc h1
      unfold dstep at h1
      split at h1
      · cases h1
      · rename_i hw; simp only [hw]; cases h1; exact ⟨n, a', W', h, q⟩
      · rename_i hw; simp only [hw]
        cases o with
        | p o => simp only at h1; split at h1 <;> cases h1; rename_i hv; simp only [OpD, ValD, hv]; exact ⟨n, a', W', h, q⟩
        | l o =>
          simp only at h1
          split at h1
          · rename_i ht; cases h1; simp only [OpD, LoadD, ht]; exact ⟨n, a', W', h, q⟩
          · rename_i b ht
            split at h1
            · cases h1
            · rename_i ob hob
              split at h1
              · cases h1
              · rename_i u hu
                split at h1
                · rename_i lo hi hsp
                  split at h1
                  · rename_i hok; cases h1; simp only [OpD, LoadD, ht, ObD, hob, SpanD, hsp, ValD, hu]; exact ⟨hok, n, a', W', h, q⟩
                  · cases h1
                · rename_i hsp
                  split at h1
                  · rename_i hok; cases h1; simp only [OpD, LoadD, ht, ObD, hob, SpanD, hsp, ValD, hu]; exact ⟨hok, n, a', W', h, q⟩
                  · cases h1
          · cases h1
        | a o => simp only at h1; split at h1 <;> cases h1; rename_i hv; simp only [OpD, NewD, hv]; exact ⟨n, a', W', h, q⟩
        | x o =>
          simp only at h1
          split at h1
          · rename_i u W2 hx
            split at h1
            · rename_i hok
              cases h1
              unfold doX at hx
              split at hx
              · rename_i h2; cases hx; simp only [OpD, XD, h2, BackD]; exact ⟨hok, n, a', W', h, q⟩
              · rename_i h2; simp only [OpD, XD, h2]; exact ⟨n, _, _, hx, hok, n, a', W', h, q⟩
              · cases hx
            · cases h1
          · cases h1
    · cases h
  · intro h
    unfold StepD at h
    split at h
    · rename_i hw
      cases o with
      | p o =>
        simp only [OpD, ValD] at h; split at h
        · rename_i hv; obtain ⟨n, a', W', h, q⟩ := h; exact ⟨n, a', W', by simp only [rdraw, dstep, hw, hv]; exact h, q⟩
        · exact h.elim
      | l o =>
        simp only [OpD, LoadD] at h
        split at h
        · rename_i ht; obtain ⟨n, a', W', h, q⟩ := h; exact ⟨n, a', W', by simp only [rdraw, dstep, hw, ht]; exact h, q⟩
        · rename_i b ht
          unfold ObD at h
          split at h
          · rename_i ob hob
            unfold SpanD at h
            split at h
            · rename_i lo hi hsp
              obtain ⟨hok, h⟩ := h
              unfold ValD at h
              split at h
              · rename_i v hv; obtain ⟨n, a', W', h, q⟩ := h
                exact ⟨n, a', W', by simp only [rdraw, dstep, hw, ht, hob, hv, hsp, if_pos hok]; exact h, q⟩
              · exact h.elim
            · rename_i hsp
              obtain ⟨hok, h⟩ := h
              unfold ValD at h
              split at h
              · rename_i v hv; obtain ⟨n, a', W', h, q⟩ := h
                exact ⟨n, a', W', by simp only [rdraw, dstep, hw, ht, hob, hv, hsp, if_pos hok]; exact h, q⟩
              · exact h.elim
          · exact h.elim
        · exact h.elim
      | a o =>
        simp only [OpD, NewD] at h; split at h
        · rename_i hv; obtain ⟨n, a', W', h, q⟩ := h; exact ⟨n, a', W', by simp only [rdraw, dstep, hw, hv]; exact h, q⟩
        · exact h.elim
      | x o =>
        simp only [OpD, XD] at h; split at h
        · rename_i v W1 hv
          obtain ⟨hok, n, a', W', h, q⟩ := h
          exact ⟨n, a', W', by simp only [rdraw, dstep, hw, doX, hv, if_pos hok]; exact h, q⟩
        · rename_i f vs W1 hv
          obtain ⟨n, v, W2, hc, hok, m, a', W', h, q⟩ := h
          have hc' := call_more (Nat.le_max_left n m) hc
          have h' := drun_more (Nat.le_max_right n m) h
          exact ⟨max n m, a', W', by simp only [rdraw, dstep, hw, doX, hv, hc', if_pos hok]; exact h', q⟩
        · exact h.elim
    · rename_i hw; obtain ⟨n, a', W', h, q⟩ := h; exact ⟨n, a', W', by simp only [rdraw, dstep, hw]; exact h, q⟩
    · exact h.elim
end

/-! Loops, cuts, calls. -/
def LoopQ (I : Nat → CAct → CW → Prop) (m : Nat) (norm : List Nat) (R : CExit → CAct → CW → Prop) (e : CExit) (a : CAct) (W : CW) : Prop :=
  match e with
  | .normal => ∃ k, k < m ∧ I k (keepF a norm) W
  | e => R e a W

theorem loopQ_normal {I : Nat → CAct → CW → Prop} {m : Nat} {norm : List Nat} {R : CExit → CAct → CW → Prop} : LoopQ I m norm R .normal a W ↔ ∃ k, k < m ∧ I k (keepF a norm) W := Iff.rfl
theorem loopQ_exit {I : Nat → CAct → CW → Prop} {m : Nat} {norm : List Nat} {R : CExit → CAct → CW → Prop} {i : Nat} : LoopQ I m norm R (.exit i) a W ↔ R (.exit i) a W := Iff.rfl
theorem loopQ_ret {I : Nat → CAct → CW → Prop} {m : Nat} {norm : List Nat} {R : CExit → CAct → CW → Prop} : LoopQ I m norm R .ret a W ↔ R .ret a W := Iff.rfl

/-- A loop, by what holds ahead of each round; a number falls in each. -/
theorem Run.loop {norm : List Nat} {b : SCode} (I : Nat → CAct → CW → Prop) (R : CExit → CAct → CW → Prop) {m : Nat} (h0 : I m a W) (hs : ∀ m a W, I m a W → Run P orc (LoopQ I m norm R) b [] a W)
    (hr : ∀ e a W, R e a W → Ret P orc Q K e a W) : Run P orc Q (.loop norm b) K a W := by
  induction m using Nat.strongRecOn generalizing a W with
  | _ m ih =>
    rw [run_loop]
    refine SRuns.mono (hs m a W h0) fun e a' W' h => ?_
    rw [ret_nil] at h
    cases e with
    | normal =>
      obtain ⟨k, hk, hi⟩ := h
      rw [ret_loop]
      exact ih k hk hi
    | exit i => rw [ret_loop_exit]; exact hr _ _ _ h
    | ret => rw [ret_loop_ret]; exact hr _ _ _ h

/-- A piece of code, by what comes of it. -/
theorem Run.cut {S : SCode} (R : CExit → CAct → CW → Prop) (h : Run P orc R S [] a W) (hr : ∀ e a W, R e a W → Ret P orc Q K e a W) : Run P orc Q S K a W :=
  SRuns.mono h fun e a' W' h => hr _ _ _ (by rwa [ret_nil] at h)

/-- What a function's end asks. -/
def Fin (res : List (Nat × Option (Option Nat))) (Q : Value → CW → Prop) (e : CExit) (a : CAct) (W : CW) : Prop :=
  match e with
  | .exit _ => False
  | _ => match resultsL a W res with
    | some vs => Q (resultOf vs) W
    | none => False

def FinQ (Q : Value → CW → Prop) (vs : Option (List Value)) (W : CW) : Prop :=
  match vs with
  | some vs => Q (resultOf vs) W
  | none => False

theorem fin_ret {res : List (Nat × Option (Option Nat))} {Q : Value → CW → Prop} : Fin res Q .ret a W ↔ FinQ Q (resultsL a W res) W := Iff.rfl
theorem fin_normal {res : List (Nat × Option (Option Nat))} {Q : Value → CW → Prop} : Fin res Q .normal a W ↔ FinQ Q (resultsL a W res) W := Iff.rfl
theorem finQ {Q : Value → CW → Prop} {vs : List Value} : FinQ Q (some vs) W ↔ Q (resultOf vs) W := Iff.rfl

theorem enter {f : FuncId} {args : List Value} {W : CW} {S : SCode} {res : List (Nat × Option (Option Nat))} {L : List (List Nat)} {Q : Value → CW → Prop} (hS : shortP P f L = some (S, res)) (ha : ask orc f args W = none)
    (h : Run P orc (Fin res Q) S [] (params 0 args .nil) W) : WpC P orc f args W Q := by
  obtain ⟨n, e, a', W', h1, h2⟩ := h
  rw [ret_nil] at h2
  have c : CMore (rcall P orc n) (rcall P orc n) := fun _ _ _ _ h => h
  have h1' := sexec_more c n (n + 1) (by omega) _ _ _ _ h1
  unfold Fin at h2
  split at h2
  · exact h2.elim
  · rename_i hno
    split at h2
    · rename_i vs hvs
      exact ⟨n + 1, resultOf vs, W', rcall_byP hS ha h1' (fun i h => hno i h) hvs, h2⟩
    · exact h2.elim
end

end Go.Can
