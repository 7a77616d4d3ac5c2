/-
  The canonical semantics: code, calls, and the theorem: what a canonical call tells, the model's call does.
-/
import Derived.Test.YtcilkncmhmckmaaGreatCanQ
namespace Go.Can
open Go
set_option linter.all false

def CExit.ex : CExit → Exit
  | .normal => .normal
  | .exit id => .exit id
  | .ret => .ret

/-- A loop, met behind its first step. -/
def LoopIn (P : Program) (c : Code) (Q : Exit → Act → World → Prop) (a : Act) (w : World) : Prop :=
  ∀ (b : Frame) (k : List Item) (cs : List Frame), ∃ e a' w', Q e a' w' ∧ Arrives P (lone (b.at a (.code c :: .inLoop c :: k)) cs w) b k cs e a' w'

theorem LoopIn.intro {P : Program} {c : Code} {Q : Exit → Act → World → Prop} {a : Act} {w : World} (h : c.wp P (Exit.then (LoopIn P c Q) Q) a w) : LoopIn P c Q a w := by
  intro b k cs
  obtain ⟨e, a₁, w₁, hq, harr⟩ := h b (.inLoop c :: k) cs
  cases e with
  | normal =>
    obtain ⟨e₂, a₂, w₂, hq₂, harr₂⟩ := hq b k cs
    exact ⟨e₂, a₂, w₂, hq₂, .of_steps (Steps.trans harr (.one step_inLoop)) harr₂⟩
  | exit id => exact ⟨_, a₁, w₁, hq, .pass (x := .inLoop c) rfl (fun _ _ => .inl (by simp)) harr⟩
  | goto l => exact ⟨_, a₁, w₁, hq, .pass (x := .inLoop c) rfl (fun _ _ => .inl (by simp)) harr⟩
  | ret => exact ⟨_, a₁, w₁, hq, .pass (x := .inLoop c) rfl (fun _ _ => .inl (by simp)) harr⟩
  | panic ch => exact ⟨_, a₁, w₁, hq, .pass (x := .inLoop c) rfl (fun _ _ => .inl (by simp)) harr⟩
  | outgrown => exact ⟨_, a₁, w₁, hq, .pass (x := .inLoop c) rfl (fun _ _ => .inl (by simp)) harr⟩

theorem LoopIn.wp {P : Program} {c : Code} {Q : Exit → Act → World → Prop} {a : Act} {w : World} (h : LoopIn P c Q a w) : (Code.loop c).wp P Q a w :=
  fun b k cs => let ⟨e, a', w', hq, harr⟩ := h b k cs; ⟨e, a', w', hq, .of_steps (.one step_loop) harr⟩

section
variable {P : Program} {call : CCall} (hcall : CallSim P call) (hB : CBoth call) (hC : CFresh call) (hm : P.follows .mixedOrders = true) {N : Nat}
include hcall hB hC hm

theorem code_sim : ∀ (n : Nat) (c : Code) (rc : RCode), rcode P N c = some rc → ∀ (r : Rn) (a : CAct) (act : Act) (W : CW) (w : World) (e : CExit) (a' : CAct) (W' : CW), Sim r W w → AR r N a act →
    rexec P call n rc a W = some (e, a', W') → ∀ (Q : Exit → Act → World → Prop),
    (∀ r' nl act' w', Sim r' W' w' → AR r' N a' act' → W'.log = nl ++ W.log → Mv r w nl r' w' → Q e.ex act' w') →
    c.wp P Q act w ∧ ∀ b, c = .loop b → LoopIn P b Q act w := by
  intro n
  induction n with
  | zero => intro c rc hc r a act W w e a' W' hs ha hv; cases hv
  | succ n ih =>
    intro c
    induction c with
    | skip =>
      intro rc hc r a act W w e a' W' hs ha hv Q hQ
      simp only [rcode] at hc; cases hc
      simp only [rexec] at hv; cases hv
      exact ⟨wp_skip (hQ r [] act w hs ha rfl (Mv.refl hs.none_ge)), fun b hb => by cases hb⟩
    | label i =>
      intro rc hc r a act W w e a' W' hs ha hv Q hQ
      simp only [rcode] at hc; cases hc
      simp only [rexec] at hv; cases hv
      exact ⟨wp_label (hQ r [] act w hs ha rfl (Mv.refl hs.none_ge)), fun b hb => by cases hb⟩
    | exit i =>
      intro rc hc r a act W w e a' W' hs ha hv Q hQ
      simp only [rcode] at hc; cases hc
      simp only [rexec] at hv; cases hv
      exact ⟨wp_exit (hQ r [] act w hs ha rfl (Mv.refl hs.none_ge)), fun b hb => by cases hb⟩
    | ret =>
      intro rc hc r a act W w e a' W' hs ha hv Q hQ
      simp only [rcode] at hc; cases hc
      simp only [rexec] at hv; cases hv
      exact ⟨wp_ret (hQ r [] act w hs ha rfl (Mv.refl hs.none_ge)), fun b hb => by cases hb⟩
    | scope c ihc =>
      intro rc hc r a act W w e a' W' hs ha hv Q hQ
      simp only [rcode] at hc
      refine ⟨wp_scope_straight (ihc rc hc r a act W w e a' W' hs ha hv _ fun r' nl act' w' h1 h2 h3 h4 => ?_).1, fun b hb => by cases hb⟩
      have := hQ r' nl act' w' h1 h2 h3 h4
      cases e <;> exact this
    | region id ops drawn =>
      intro rc hc r a act W w e a' W' hs ha hv Q hQ
      refine ⟨?_, fun b hb => by cases hb⟩
      cases drawn with
      | false =>
        simp only [rcode] at hc
        split at hc
        · rename_i l hl; cases hc
          simp only [rexec] at hv
          split at hv
          · rename_i a1 W1 h1; cases hv
            exact region_sim hcall hl hs ha h1 hQ
          · cases hv
        · cases hc
      | true =>
        simp only [rcode] at hc
        split at hc
        · rename_i l hl
          split at hc
          · rename_i hd; cases hc
            simp only [rexec] at hv
            split at hv
            · rename_i a1 W1 h1; cases hv
              exact draw_sim hcall hB hC hm hl hd hs ha h1 hQ
            · cases hv
          · cases hc
        · cases hc
    | seq x y _ _ =>
      intro rc hc r a act W w e a' W' hs ha hv Q hQ
      refine ⟨?_, fun b hb => by cases hb⟩
      simp only [rcode] at hc
      split at hc
      · rename_i rx ry hx hy; cases hc
        simp only [rexec] at hv
        split at hv
        · rename_i a1 W1 h1
          refine wp_seq (ih x rx hx r a act W w _ _ _ hs ha h1 _ fun r1 nl1 act1 w1 g1 g2 g3 g4 => ?_).1
          refine (ih y ry hy r1 a1 act1 W1 w1 _ _ _ g1 g2 hv _ fun r2 nl2 act2 w2 k1 k2 k3 k4 => ?_).1
          exact hQ r2 (nl2 ++ nl1) act2 w2 k1 k2 (by rw [k3, g3, List.append_assoc]) (g4.trans k4)
        · rename_i hno
          refine wp_seq (ih x rx hx r a act W w _ _ _ hs ha hv _ fun r1 nl1 act1 w1 g1 g2 g3 g4 => ?_).1
          have := hQ r1 nl1 act1 w1 g1 g2 g3 g4
          cases e with
          | normal => exact absurd hv (hno _ _)
          | _ => exact this
      · cases hc
    | cond o x y _ _ =>
      intro rc hc r a act W w e a' W' hs ha hv Q hQ
      refine ⟨?_, fun b hb => by cases hb⟩
      simp only [rcode] at hc
      split at hc
      · rename_i ro rx ry ho hx hy; cases hc
        simp only [rexec] at hv
        split at hv
        · rename_i ho1
          have e1 := (rxc_ev ha ho ho1).bool_inv
          exact wp_cond_true e1 (ih x rx hx r a act W w _ _ _ hs ha hv _ hQ).1
        · rename_i ho1
          have e1 := (rxc_ev ha ho ho1).bool_inv
          exact wp_cond_false e1 (ih y ry hy r a act W w _ _ _ hs ha hv _ hQ).1
        · cases hv
      · cases hc
    | block id c _ =>
      intro rc hc r a act W w e a' W' hs ha hv Q hQ
      refine ⟨?_, fun b hb => by cases hb⟩
      simp only [rcode] at hc
      split at hc
      · rename_i rb hb; cases hc
        simp only [rexec] at hv
        split at hv
        · rename_i i a1 W1 h1
          refine wp_block (ih c rb hb r a act W w _ _ _ hs ha h1 _ fun r1 nl1 act1 w1 g1 g2 g3 g4 => ?_).1
          simp only [CExit.ex, Exit.inBlock]
          split at hv
          · rename_i hi; cases hv
            rw [if_pos hi]
            exact hQ r1 nl1 act1 w1 g1 g2 g3 g4
          · rename_i hi; cases hv
            rw [if_neg hi]
            exact hQ r1 nl1 act1 w1 g1 g2 g3 g4
        · rename_i hno
          refine wp_block (ih c rb hb r a act W w _ _ _ hs ha hv _ fun r1 nl1 act1 w1 g1 g2 g3 g4 => ?_).1
          have := hQ r1 nl1 act1 w1 g1 g2 g3 g4
          cases e with
          | exit i => exact absurd hv (hno _ _ _)
          | _ => exact this
      · cases hc
    | loop c _ =>
      intro rc hc r a act W w e a' W' hs ha hv Q hQ
      have key : LoopIn P c Q act w := by
        have hc0 := hc
        simp only [rcode] at hc
        split at hc
        · rename_i rb hb; cases hc
          simp only [rexec] at hv
          split at hv
          · rename_i a1 W1 h1
            refine LoopIn.intro (ih c rb hb r a act W w _ _ _ hs ha h1 _ fun r1 nl1 act1 w1 g1 g2 g3 g4 => ?_).1
            refine (ih (.loop c) (.loop rb) hc0 r1 a1 act1 W1 w1 _ _ _ g1 g2 hv _ fun r2 nl2 act2 w2 k1 k2 k3 k4 => ?_).2 c rfl
            exact hQ r2 (nl2 ++ nl1) act2 w2 k1 k2 (by rw [k3, g3, List.append_assoc]) (g4.trans k4)
          · rename_i hno
            refine LoopIn.intro (ih c rb hb r a act W w _ _ _ hs ha hv _ fun r1 nl1 act1 w1 g1 g2 g3 g4 => ?_).1
            have := hQ r1 nl1 act1 w1 g1 g2 g3 g4
            cases e with
            | normal => exact absurd hv (hno _ _)
            | _ => exact this
        · cases hc
      exact ⟨key.wp, fun b hb => by cases hb; exact key⟩
    | _ => intro rc hc; simp only [rcode] at hc; cases hc

end

theorem cell_sim {P : Program} {r : Rn} {W : CW} {w : World} (hs : Sim r W w) {t : TypeId} {k : Option Nat} (hk : aggK P t = some k) {b off : Nat} {sp : Option Nat} {pv' : Value} (hp : VR r (.pointer (some ⟨b, off, sp⟩)) pv')
    {cs : List Value} {own : Bool} (hg : W.get b = some (.row cs own)) {v : Value} (hv : part k cs off = some v) : ∃ v', (do loadVar t (← asAddr pv') : Sem Value).run P w = .ok v' w ∧ VR r v v' := by
  cases hp with
  | ptr _ _ _ ad hb hh =>
    obtain ⟨p, h1, h2⟩ := hs.place hb hg (by simp)
    have had := hh p h1
    subst had
    cases hw : w.heap[p.blk]? with
    | none => rw [hw] at h2; exact h2.elim
    | some obj =>
      rw [hw] at h2
      have ho : RowR r cs own obj p := h2
      rcases aggK_spec hk w with ⟨n, rfl, g1, g2⟩ | ⟨rfl, g1⟩
      · simp only [part] at hv
        split at hv
        · rename_i l hl; cases hv
          obtain ⟨l', e1, e2, e3⟩ := row_cells hw ho hl
          have e4 := run_loadCells_list (P := P) w ⟨p.blk, p.off + off, none⟩ l' (fun j v hj => by
            have := e3 j v hj
            rw [add_block (a := ⟨p.blk, p.off + off, none⟩) rfl rfl rfl, Nat.add_assoc]; exact this)
          rw [e2] at e4
          exact ⟨.agg l'.toArray, by simp [asAddr, loadVar, g1, g2, e4], VR.arr_of (by simpa using e1)⟩
        · cases hv
      · simp only [part] at hv
        obtain ⟨c, e, fr, rfl, e1, e2⟩ := ho
        obtain ⟨v', e3, e4⟩ := e1 _ _ hv
        exact ⟨v', by simp [asAddr, loadVar, g1, cell_of hw, e3], e4⟩

/-- What one result variable comes to. -/
def resVar (tmps : Array Value) : ResultVar → Sem Value
  | .tmp t => pure (tmps.getD t undef)
  | .cell a t => do loadVar t (← asAddr (tmps.getD a undef))

theorem results_sim {P : Program} {r : Rn} {N : Nat} {a : CAct} {act : Act} {W : CW} {w : World} (hs : Sim r W w) (ha : AR r N a act) : ∀ (vars : List ResultVar) (res : List (Nat × Option (Option Nat))) (vs : List Value),
    rres P vars = some res → resultsL a W res = some vs → ∃ vs', (vars.mapM (resVar act.tmps)).run P w = .ok vs' w ∧ VRL r vs vs'
  | [], res, vs, h1, h2 => by
    simp only [rres, Option.some.injEq] at h1; subst h1
    simp only [resultsL, Option.some.injEq] at h2; subst h2
    exact ⟨[], by simp, VRL.nil r⟩
  | .tmp t :: vars, res, vs, h1, h2 => by
    simp only [rres] at h1
    split at h1
    · rename_i res' h3; cases h1
      simp only [resultsL] at h2
      split at h2
      · rename_i v vs1 h4 h5; cases h2
        obtain ⟨vs', g1, g2⟩ := results_sim hs ha vars res' vs1 h3 h5
        obtain ⟨v', g3, g4⟩ := ha.tmp t v h4
        exact ⟨v' :: vs', by simp [List.mapM_cons, resVar, g1, g3], VRL.cons g4 g2⟩
      · cases h2
    · cases h1
  | .cell t ty :: vars, res, vs, h1, h2 => by
    simp only [rres] at h1
    split at h1
    · rename_i k res' hk h3; cases h1
      simp only [resultsL] at h2
      split at h2
      · rename_i v vs1 h4 h5; cases h2
        obtain ⟨vs', g1, g2⟩ := results_sim hs ha vars res' vs1 h3 h5
        simp only [result1] at h4
        split at h4
        · rename_i b off sp hb
          split at h4
          · rename_i cs own hg
            obtain ⟨pv', g3, g4⟩ := ha.tmp t _ hb
            obtain ⟨v', g5, g6⟩ := cell_sim (P := P) hs hk g4 hg h4
            refine ⟨v' :: vs', ?_, VRL.cons g6 g2⟩
            have g3' : act.tmps.getD t undef = pv' := by simp [g3]
            have g5' : (resVar act.tmps (.cell t ty)).run P w = .ok v' w := by simp only [resVar, g3']; exact g5
            rw [List.mapM_cons]
            simp [g5', g1]
          · cases h4
        · cases h4
      · cases h2
    · cases h1

theorem run_results {P : Program} {r : Rn} {N : Nat} {a : CAct} {act : Act} {W : CW} {w : World} (hs : Sim r W w) (ha : AR r N a act) {fn : Func} {res : List (Nat × Option (Option Nat))} {vs : List Value}
    (h1 : rres P fn.results.toList = some res) (h2 : resultsL a W res = some vs) : ∃ v', (results fn act.tmps).run P w = .ok v' w ∧ VR r (resultOf vs) v' := by
  obtain ⟨vs', g1, g2⟩ := results_sim hs ha _ _ _ h1 h2
  refine ⟨if h : vs'.toArray.size = 1 then vs'.toArray[0] else .tuple vs'.toArray, ?_, ?_⟩
  · have e : results fn act.tmps = (do let vs ← fn.results.mapM (resVar act.tmps); pure (if h : vs.size = 1 then vs[0] else .tuple vs)) := by
      unfold results
      congr 1
    rw [e, Array.mapM_eq_mapM_toList]
    simp [g1]
  · match vs, vs', g2 with
    | [v], [v'], g2 => simpa [resultOf] using g2.2 0 v v' rfl rfl
    | [], [], g2 => exact VR.undef r
    | v :: u :: vs, v' :: u' :: vs', g2 =>
      have : ¬ ((v' :: u' :: vs').toArray.size = 1) := by simp
      rw [dif_neg this]
      exact VR.tup_of (by simpa using g2)
    | [], v' :: vs', g2 => simp [VRL] at g2
    | [v], [], g2 => simp [VRL] at g2
    | [v], v' :: u' :: vs', g2 => simp [VRL] at g2
    | v :: u :: vs, [], g2 => simp [VRL] at g2
    | v :: u :: vs, [v'], g2 => simp [VRL] at g2

theorem params_get : ∀ (args : List Value) (i : Nat) (a : CAct) (t : Nat), (params i args a).get t = if i ≤ t ∧ t < i + args.length then args[t - i]? else a.get t
  | [], i, a, t => by simp [params]; omega
  | v :: vs, i, a, t => by
    rw [params, params_get vs (i + 1) _ t, Tr.get_set]
    by_cases h : i + 1 ≤ t ∧ t < i + 1 + vs.length
    · rw [if_pos h, if_pos (by simp; omega), show t - i = (t - (i + 1)) + 1 by omega]; simp
    · rw [if_neg h]
      by_cases h2 : t = i
      · subst h2; simp
      · rw [if_neg h2, if_neg (by simp; omega)]

/-- Nothing that was there has turned. -/
structure Held (w w' : World) : Prop where
  stays : Stays w w'
  size : w.heap.size ≤ w'.heap.size
  heap : ∀ blk, blk < w.heap.size → w'.heap[blk]? = w.heap[blk]?

/-- What an oracle says is so. -/
def OrcOk (P : Program) (orc : Orc) : Prop := ∀ f b, orc f = some b → (∃ R, rfn P f = some R) ∧ ∀ w, Calls P f #[] w fun e w' => e = .returned (.bool b) ∧ Held w w'

theorem noOrc_ok (P : Program) : OrcOk P noOrc := fun f b h => by cases h

theorem Sim.held {r : Rn} {W : CW} {w w' : World} (hs : Sim r W w) (h : Held w w') : Sim r W w' ∧ Mv r w [] r w' := by
  refine ⟨⟨hs.n, fun b p hp => ?_, hs.tot, hs.inj, hs.fresh, hs.here⟩, Later.refl r, h.size, fun blk hb _ => h.heap blk hb, fun b hb p hp => ?_, h.stays⟩
  · obtain ⟨h1, ob, h2, h3⟩ := hs.obj b p hp
    refine ⟨h1, ob, h2, ?_⟩
    rw [h.heap]
    · exact h3
    · rcases Nat.lt_or_ge p.blk w.heap.size with h4 | h4
      · exact h4
      · rw [Array.getElem?_eq_none h4] at h3; cases ob <;> exact h3.elim
  · rw [hs.none_ge b hb] at hp; cases hp

theorem rcall_sim (P : Program) (hm : P.follows .mixedOrders = true) {orc : Orc} (horc : OrcOk P orc) : ∀ n, CallSim P (rcall P orc n) := by
  intro n
  induction n with
  | zero => intro f args W v W' hv; cases hv
  | succ n ih =>
    intro f args W v W' hv
    simp only [rcall] at hv
    split at hv
    · rename_i b hb; cases hv
      have ha : args = [] := by
        cases args with
        | nil => rfl
        | cons x xs => cases hb
      subst ha
      obtain ⟨g1, g2⟩ := horc f b hb
      refine ⟨g1, fun r w args' hs hargs => ?_⟩
      have e : args' = #[] := by
        have := hargs.1
        simpa using this.symm
      subst e
      refine Calls.mono (g2 w) fun e w' he => ?_
      obtain ⟨rfl, hh⟩ := he
      obtain ⟨k1, k2⟩ := hs.held hh
      exact ⟨_, r, [], rfl, .bool b, k1, rfl, k2⟩
    split at hv
    · cases hv
    · rename_i R hR
      refine ⟨⟨R, hR⟩, fun r w args' hs hargs => ?_⟩
      have hR0 := hR
      unfold rfn at hR
      split at hR
      · rename_i fn hf
        unfold rfunc at hR
        split at hR
        · cases hR
        · rename_i c hc
          split at hR
          · rename_i body res hbody hres
            split at hR
            · cases hR
            · split at hR
              · cases hR
                refine calls_of_wp hf hc ?_
                have hA : AR r fn.ntmps (params 0 args .nil) { tmps := args' ++ Array.replicate (fn.ntmps - args'.size) undef, defers := [] } := by
                  refine ⟨by simp; omega, rfl, fun t u hu => ?_⟩
                  rw [params_get] at hu
                  split at hu
                  · obtain ⟨u', g1, g2⟩ := hargs.get hu
                    have hlt : t < args'.size := by have := (List.getElem?_eq_some_iff.1 g1).1; simpa using this
                    refine ⟨u', ?_, g2⟩
                    simp only
                    rw [Array.getElem?_append_left hlt]
                    simpa using g1
                  · simp at hu
                split at hv
                · cases hv
                · rename_i e a1 W1 hno h1
                  split at hv
                  · rename_i vs h2; cases hv
                    refine (code_sim ih (rcall_both P orc n) (rcall_fresh P orc n) hm (n + 1) c body hbody r _ _ W w _ _ _ hs hA h1 _ fun r' nl act' w' g1 g2 g3 g4 => ?_).1
                    obtain ⟨v', k1, k2⟩ := run_results (P := P) g1 g2 hres h2
                    have fin : act'.defers = [] ∧ ∃ v, (results fn act'.tmps).run P w' = .ok v w' ∧ ∃ v' r'' nl, Ending.returned v = .returned v' ∧ VR r'' (resultOf vs) v' ∧ Sim r'' W' w' ∧ W'.log = nl ++ W.log ∧ Mv r w nl r'' w' :=
                      ⟨g2.defers, v', k1, v', r', nl, rfl, k2, g1, g3, g4⟩
                    cases e with
                    | normal => exact fin
                    | ret => exact fin
                    | exit id => first | exact (hno _ _ rfl).elim | exact (hno _ rfl).elim | exact (hno _ _ _ rfl).elim | exact (hno id rfl).elim
                  · cases hv
                · cases hv
              · cases hR
          · cases hR
      · cases hR

end Go.Can
