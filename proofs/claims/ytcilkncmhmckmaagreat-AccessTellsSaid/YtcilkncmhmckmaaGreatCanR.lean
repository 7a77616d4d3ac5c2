/-
  The canonical semantics: code, calls, and the theorem: what a canonical call tells, the model's call does.
-/
import Derived.Test.YtcilkncmhmckmaaGreatCanQ
import Derived.Sort.Grow
import Derived.Sort.Row
namespace Go.Can
open Go
set_option linter.all false

def CExit.ex : CExit → Exit
  | .normal => .normal
  | .exit id => .exit id
  | .ret => .ret

/-- A loop, met behind its first step. -/
def LoopIn (P : Program) (c : Code) (Q : Exit → Act → World → Prop) (a : Act) (w : World) : Prop :=
  ∀ (b : Frame) (k : List Item) (cs : List Frame), ∃ e a' w', Q e a' w' ∧ Arrives P (lone (b.at a (.code c :: .inLoop c :: k)) cs w) b k cs e a' w'

theorem LoopIn.intro {P : Program} {c : Code} {Q : Exit → Act → World → Prop} {a : Act} {w : World} (h : c.wp P (Exit.then (LoopIn P c Q) Q) a w) : LoopIn P c Q a w := by
  intro b k cs
  obtain ⟨e, a₁, w₁, hq, harr⟩ := h b (.inLoop c :: k) cs
  cases e with
  | normal =>
    obtain ⟨e₂, a₂, w₂, hq₂, harr₂⟩ := hq b k cs
    exact ⟨e₂, a₂, w₂, hq₂, .of_steps (Steps.trans harr (.one step_inLoop)) harr₂⟩
  | exit id => exact ⟨_, a₁, w₁, hq, .pass (x := .inLoop c) rfl (fun _ _ => .inl (by simp)) harr⟩
  | goto l => exact ⟨_, a₁, w₁, hq, .pass (x := .inLoop c) rfl (fun _ _ => .inl (by simp)) harr⟩
  | ret => exact ⟨_, a₁, w₁, hq, .pass (x := .inLoop c) rfl (fun _ _ => .inl (by simp)) harr⟩
  | panic ch => exact ⟨_, a₁, w₁, hq, .pass (x := .inLoop c) rfl (fun _ _ => .inl (by simp)) harr⟩
  | outgrown => exact ⟨_, a₁, w₁, hq, .pass (x := .inLoop c) rfl (fun _ _ => .inl (by simp)) harr⟩

theorem LoopIn.wp {P : Program} {c : Code} {Q : Exit → Act → World → Prop} {a : Act} {w : World} (h : LoopIn P c Q a w) : (Code.loop c).wp P Q a w :=
  fun b k cs => let ⟨e, a', w', hq, harr⟩ := h b k cs; ⟨e, a', w', hq, .of_steps (.one step_loop) harr⟩

section
variable {P : Program} {call : CCall} (hcall : CallSim P call) (hB : CBoth call) (hC : CFresh call) (hm : P.follows .mixedOrders = true) {N : Nat}
include hcall hB hC hm

theorem code_sim : ∀ (n : Nat) (c : Code) (rc : RCode), rcode P N c = some rc → ∀ (r : Rn) (a : CAct) (act : Act) (W : CW) (w : World) (e : CExit) (a' : CAct) (W' : CW), Sim r W w → AR r N a act →
    rexec P call n rc a W = some (e, a', W') → ∀ (Q : Exit → Act → World → Prop),
    (∀ r' nl act' w', Sim r' W' w' → AR r' N a' act' → W'.log = nl ++ W.log → Mv r w nl r' w' → Q e.ex act' w') →
    c.wp P Q act w ∧ ∀ b, c = .loop b → LoopIn P b Q act w := by
  intro n
  induction n with
  | zero => intro c rc hc r a act W w e a' W' hs ha hv; cases hv
  | succ n ih =>
    intro c
    induction c with
    | skip =>
      intro rc hc r a act W w e a' W' hs ha hv Q hQ
      simp only [rcode] at hc; cases hc
      simp only [rexec] at hv; cases hv
      exact ⟨wp_skip (hQ r [] act w hs ha rfl (Mv.refl hs.none_ge)), fun b hb => by cases hb⟩
    | label i =>
      intro rc hc r a act W w e a' W' hs ha hv Q hQ
      simp only [rcode] at hc; cases hc
      simp only [rexec] at hv; cases hv
      exact ⟨wp_label (hQ r [] act w hs ha rfl (Mv.refl hs.none_ge)), fun b hb => by cases hb⟩
    | exit i =>
      intro rc hc r a act W w e a' W' hs ha hv Q hQ
      simp only [rcode] at hc; cases hc
      simp only [rexec] at hv; cases hv
      exact ⟨wp_exit (hQ r [] act w hs ha rfl (Mv.refl hs.none_ge)), fun b hb => by cases hb⟩
    | ret =>
      intro rc hc r a act W w e a' W' hs ha hv Q hQ
      simp only [rcode] at hc; cases hc
      simp only [rexec] at hv; cases hv
      exact ⟨wp_ret (hQ r [] act w hs ha rfl (Mv.refl hs.none_ge)), fun b hb => by cases hb⟩
    | scope c ihc =>
      intro rc hc r a act W w e a' W' hs ha hv Q hQ
      simp only [rcode] at hc
      refine ⟨wp_scope_straight (ihc rc hc r a act W w e a' W' hs ha hv _ fun r' nl act' w' h1 h2 h3 h4 => ?_).1, fun b hb => by cases hb⟩
      have := hQ r' nl act' w' h1 h2 h3 h4
      cases e <;> exact this
    | region id ops drawn =>
      intro rc hc r a act W w e a' W' hs ha hv Q hQ
      refine ⟨?_, fun b hb => by cases hb⟩
      cases drawn with
      | false =>
        simp only [rcode] at hc
        split at hc
        · rename_i l hl; cases hc
          simp only [rexec] at hv
          split at hv
          · rename_i a1 W1 h1; cases hv
            exact region_sim hcall hl hs ha h1 hQ
          · cases hv
        · cases hc
      | true =>
        simp only [rcode] at hc
        split at hc
        · rename_i l hl
          split at hc
          · rename_i hd; cases hc
            simp only [rexec] at hv
            split at hv
            · rename_i a1 W1 h1; cases hv
              exact draw_sim hcall hB hC hm hl hd hs ha h1 hQ
            · cases hv
          · cases hc
        · cases hc
    | seq x y _ _ =>
      intro rc hc r a act W w e a' W' hs ha hv Q hQ
      refine ⟨?_, fun b hb => by cases hb⟩
      simp only [rcode] at hc
      split at hc
      · rename_i rx ry hx hy; cases hc
        simp only [rexec] at hv
        split at hv
        · rename_i a1 W1 h1
          refine wp_seq (ih x rx hx r a act W w _ _ _ hs ha h1 _ fun r1 nl1 act1 w1 g1 g2 g3 g4 => ?_).1
          refine (ih y ry hy r1 a1 act1 W1 w1 _ _ _ g1 g2 hv _ fun r2 nl2 act2 w2 k1 k2 k3 k4 => ?_).1
          exact hQ r2 (nl2 ++ nl1) act2 w2 k1 k2 (by rw [k3, g3, List.append_assoc]) (g4.trans k4)
        · rename_i hno
          refine wp_seq (ih x rx hx r a act W w _ _ _ hs ha hv _ fun r1 nl1 act1 w1 g1 g2 g3 g4 => ?_).1
          have := hQ r1 nl1 act1 w1 g1 g2 g3 g4
          cases e with
          | normal => exact absurd hv (hno _ _)
          | _ => exact this
      · cases hc
    | cond o x y _ _ =>
      intro rc hc r a act W w e a' W' hs ha hv Q hQ
      refine ⟨?_, fun b hb => by cases hb⟩
      simp only [rcode] at hc
      split at hc
      · rename_i ro rx ry ho hx hy; cases hc
        simp only [rexec] at hv
        split at hv
        · rename_i ho1
          have e1 := (rxc_ev ha ho ho1).bool_inv
          exact wp_cond_true e1 (ih x rx hx r a act W w _ _ _ hs ha hv _ hQ).1
        · rename_i ho1
          have e1 := (rxc_ev ha ho ho1).bool_inv
          exact wp_cond_false e1 (ih y ry hy r a act W w _ _ _ hs ha hv _ hQ).1
        · cases hv
      · cases hc
    | block id c _ =>
      intro rc hc r a act W w e a' W' hs ha hv Q hQ
      refine ⟨?_, fun b hb => by cases hb⟩
      simp only [rcode] at hc
      split at hc
      · rename_i rb hb; cases hc
        simp only [rexec] at hv
        split at hv
        · rename_i i a1 W1 h1
          refine wp_block (ih c rb hb r a act W w _ _ _ hs ha h1 _ fun r1 nl1 act1 w1 g1 g2 g3 g4 => ?_).1
          simp only [CExit.ex, Exit.inBlock]
          split at hv
          · rename_i hi; cases hv
            rw [if_pos hi]
            exact hQ r1 nl1 act1 w1 g1 g2 g3 g4
          · rename_i hi; cases hv
            rw [if_neg hi]
            exact hQ r1 nl1 act1 w1 g1 g2 g3 g4
        · rename_i hno
          refine wp_block (ih c rb hb r a act W w _ _ _ hs ha hv _ fun r1 nl1 act1 w1 g1 g2 g3 g4 => ?_).1
          have := hQ r1 nl1 act1 w1 g1 g2 g3 g4
          cases e with
          | exit i => exact absurd hv (hno _ _ _)
          | _ => exact this
      · cases hc
    | loop c _ =>
      intro rc hc r a act W w e a' W' hs ha hv Q hQ
      have key : LoopIn P c Q act w := by
        have hc0 := hc
        simp only [rcode] at hc
        split at hc
        · rename_i rb hb; cases hc
          simp only [rexec] at hv
          split at hv
          · rename_i a1 W1 h1
            refine LoopIn.intro (ih c rb hb r a act W w _ _ _ hs ha h1 _ fun r1 nl1 act1 w1 g1 g2 g3 g4 => ?_).1
            refine (ih (.loop c) (.loop rb) hc0 r1 a1 act1 W1 w1 _ _ _ g1 g2 hv _ fun r2 nl2 act2 w2 k1 k2 k3 k4 => ?_).2 c rfl
            exact hQ r2 (nl2 ++ nl1) act2 w2 k1 k2 (by rw [k3, g3, List.append_assoc]) (g4.trans k4)
          · rename_i hno
            refine LoopIn.intro (ih c rb hb r a act W w _ _ _ hs ha hv _ fun r1 nl1 act1 w1 g1 g2 g3 g4 => ?_).1
            have := hQ r1 nl1 act1 w1 g1 g2 g3 g4
            cases e with
            | normal => exact absurd hv (hno _ _)
            | _ => exact this
        · cases hc
      exact ⟨key.wp, fun b hb => by cases hb; exact key⟩
    | _ => intro rc hc; simp only [rcode] at hc; cases hc

end

theorem cell_sim {P : Program} {r : Rn} {W : CW} {w : World} (hs : Sim r W w) {t : TypeId} {k : Option Nat} (hk : aggK P t = some k) {b off : Nat} {sp : Option Nat} {pv' : Value} (hp : VR r (.pointer (some ⟨b, off, sp⟩)) pv')
    {cs : List Value} {own : Bool} (hg : W.get b = some (.row cs own)) {v : Value} (hv : part k cs off = some v) : ∃ v', (do loadVar t (← asAddr pv') : Sem Value).run P w = .ok v' w ∧ VR r v v' := by
  cases hp with
  | ptr _ _ _ ad hb hh =>
    obtain ⟨p, h1, h2⟩ := hs.place hb hg (by simp)
    have had := hh p h1
    subst had
    cases hw : w.heap[p.blk]? with
    | none => rw [hw] at h2; exact h2.elim
    | some obj =>
      rw [hw] at h2
      have ho : RowR r cs own obj p := h2
      rcases aggK_spec hk w with ⟨n, rfl, g1, g2⟩ | ⟨rfl, g1⟩
      · simp only [part] at hv
        split at hv
        · rename_i l hl; cases hv
          obtain ⟨l', e1, e2, e3⟩ := row_cells hw ho hl
          have e4 := run_loadCells_list (P := P) w ⟨p.blk, p.off + off, none⟩ l' (fun j v hj => by
            have := e3 j v hj
            rw [add_block (a := ⟨p.blk, p.off + off, none⟩) rfl rfl rfl, Nat.add_assoc]; exact this)
          rw [e2] at e4
          exact ⟨.agg l'.toArray, by simp [asAddr, loadVar, g1, g2, e4], VR.arr_of (by simpa using e1)⟩
        · cases hv
      · simp only [part] at hv
        obtain ⟨c, e, fr, rfl, e1, e2⟩ := ho
        obtain ⟨v', e3, e4⟩ := e1 _ _ hv
        exact ⟨v', by simp [asAddr, loadVar, g1, cell_of hw, e3], e4⟩

/-- What one result variable comes to. -/
def resVar (tmps : Array Value) : ResultVar → Sem Value
  | .tmp t => pure (tmps.getD t undef)
  | .cell a t => do loadVar t (← asAddr (tmps.getD a undef))

theorem results_sim {P : Program} {r : Rn} {N : Nat} {a : CAct} {act : Act} {W : CW} {w : World} (hs : Sim r W w) (ha : AR r N a act) : ∀ (vars : List ResultVar) (res : List (Nat × Option (Option Nat))) (vs : List Value),
    rres P vars = some res → resultsL a W res = some vs → ∃ vs', (vars.mapM (resVar act.tmps)).run P w = .ok vs' w ∧ VRL r vs vs'
  | [], res, vs, h1, h2 => by
    simp only [rres, Option.some.injEq] at h1; subst h1
    simp only [resultsL, Option.some.injEq] at h2; subst h2
    exact ⟨[], by simp, VRL.nil r⟩
  | .tmp t :: vars, res, vs, h1, h2 => by
    simp only [rres] at h1
    split at h1
    · rename_i res' h3; cases h1
      simp only [resultsL] at h2
      split at h2
      · rename_i v vs1 h4 h5; cases h2
        obtain ⟨vs', g1, g2⟩ := results_sim hs ha vars res' vs1 h3 h5
        obtain ⟨v', g3, g4⟩ := ha.tmp t v h4
        exact ⟨v' :: vs', by simp [List.mapM_cons, resVar, g1, g3], VRL.cons g4 g2⟩
      · cases h2
    · cases h1
  | .cell t ty :: vars, res, vs, h1, h2 => by
    simp only [rres] at h1
    split at h1
    · rename_i k res' hk h3; cases h1
      simp only [resultsL] at h2
      split at h2
      · rename_i v vs1 h4 h5; cases h2
        obtain ⟨vs', g1, g2⟩ := results_sim hs ha vars res' vs1 h3 h5
        simp only [result1] at h4
        split at h4
        · rename_i b off sp hb
          split at h4
          · rename_i cs own hg
            obtain ⟨pv', g3, g4⟩ := ha.tmp t _ hb
            obtain ⟨v', g5, g6⟩ := cell_sim (P := P) hs hk g4 hg h4
            refine ⟨v' :: vs', ?_, VRL.cons g6 g2⟩
            have g3' : act.tmps.getD t undef = pv' := by simp [g3]
            have g5' : (resVar act.tmps (.cell t ty)).run P w = .ok v' w := by simp only [resVar, g3']; exact g5
            rw [List.mapM_cons]
            simp [g5', g1]
          · cases h4
        · cases h4
      · cases h2
    · cases h1

theorem run_results {P : Program} {r : Rn} {N : Nat} {a : CAct} {act : Act} {W : CW} {w : World} (hs : Sim r W w) (ha : AR r N a act) {fn : Func} {res : List (Nat × Option (Option Nat))} {vs : List Value}
    (h1 : rres P fn.results.toList = some res) (h2 : resultsL a W res = some vs) : ∃ v', (results fn act.tmps).run P w = .ok v' w ∧ VR r (resultOf vs) v' := by
  obtain ⟨vs', g1, g2⟩ := results_sim hs ha _ _ _ h1 h2
  refine ⟨if h : vs'.toArray.size = 1 then vs'.toArray[0] else .tuple vs'.toArray, ?_, ?_⟩
  · have e : results fn act.tmps = (do let vs ← fn.results.mapM (resVar act.tmps); pure (if h : vs.size = 1 then vs[0] else .tuple vs)) := by
      unfold results
      congr 1
    rw [e, Array.mapM_eq_mapM_toList]
    simp [g1]
  · match vs, vs', g2 with
    | [v], [v'], g2 => simpa [resultOf] using g2.2 0 v v' rfl rfl
    | [], [], g2 => exact VR.undef r
    | v :: u :: vs, v' :: u' :: vs', g2 =>
      have : ¬ ((v' :: u' :: vs').toArray.size = 1) := by simp
      rw [dif_neg this]
      exact VR.tup_of (by simpa using g2)
    | [], v' :: vs', g2 => simp [VRL] at g2
    | [v], [], g2 => simp [VRL] at g2
    | [v], v' :: u' :: vs', g2 => simp [VRL] at g2
    | v :: u :: vs, [], g2 => simp [VRL] at g2
    | v :: u :: vs, [v'], g2 => simp [VRL] at g2

theorem params_get : ∀ (args : List Value) (i : Nat) (a : CAct) (t : Nat), (params i args a).get t = if i ≤ t ∧ t < i + args.length then args[t - i]? else a.get t
  | [], i, a, t => by simp [params]; omega
  | v :: vs, i, a, t => by
    rw [params, params_get vs (i + 1) _ t, Tr.get_set]
    by_cases h : i + 1 ≤ t ∧ t < i + 1 + vs.length
    · rw [if_pos h, if_pos (by simp; omega), show t - i = (t - (i + 1)) + 1 by omega]; simp
    · rw [if_neg h]
      by_cases h2 : t = i
      · subst h2; simp
      · rw [if_neg h2, if_neg (by simp; omega)]

/-- Nothing that was there has turned. -/
structure Held (w w' : World) : Prop where
  stays : Stays w w'
  size : w.heap.size ≤ w'.heap.size
  heap : ∀ blk, blk < w.heap.size → w'.heap[blk]? = w.heap[blk]?

/-- A function sorts integers. -/
def SortOk (P : Program) (f : FuncId) : Prop :=
  (∀ (p : Option Addr) (cap : Nat) (w : World), Calls P f #[.slice p 0 cap] w fun e w' => e = .returned (.tuple #[]) ∧ w' = w) ∧
  ∀ (blk off cap : Nat) (zs : List Int) (w : World), Go.Sort.Holds (Value.int .i64) w blk off zs.toArray → blk < w.heap.size → zs.length < 4611686018427387904 →
    Calls P f #[.slice (some ⟨blk, off, none⟩) zs.length cap] w fun e w' =>
      e = .returned (.tuple #[]) ∧ ∃ n os, w' = Go.Sort.grow (Go.Sort.putRow (Value.int .i64) (Go.Sort.ahead w n) blk off (zs.mergeSort fun x y => decide (x ≤ y)).toArray) os

/-- What an oracle says is so. -/
def OrcOk (P : Program) (orc : Orc) : Prop := ∀ f k, orc f = some k → (∃ R, rfn P f = some R) ∧
  match k with
  | .word b => ∀ w, Calls P f #[] w fun e w' => e = .returned (.bool b) ∧ Held w w'
  | .sort => SortOk P f

theorem noOrc_ok (P : Program) : OrcOk P noOrc := fun f b h => by cases h

theorem Sim.held {r : Rn} {W : CW} {w w' : World} (hs : Sim r W w) (h : Held w w') : Sim r W w' ∧ Mv r w [] r w' := by
  refine ⟨⟨hs.n, fun b p hp => ?_, hs.tot, hs.inj, hs.fresh, hs.here⟩, Later.refl r, h.size, fun blk hb _ => h.heap blk hb, fun b hb p hp => ?_, h.stays⟩
  · obtain ⟨h1, ob, h2, h3⟩ := hs.obj b p hp
    refine ⟨h1, ob, h2, ?_⟩
    rw [h.heap]
    · exact h3
    · rcases Nat.lt_or_ge p.blk w.heap.size with h4 | h4
      · exact h4
      · rw [Array.getElem?_eq_none h4] at h3; cases ob <;> exact h3.elim
  · rw [hs.none_ge b hb] at hp; cases hp

theorem intsOf_eq : ∀ {l : List Value} {zs : List Int}, intsOf l = some zs → l = zs.map (.int .i64)
  | [], zs, h => by cases h; rfl
  | u :: l, zs, h => by
    unfold intsOf at h
    split at h
    · rename_i heq; cases heq
    · rename_i heq; cases heq
      split at h
      · rename_i r hr; cases h; rw [List.map_cons, ← intsOf_eq hr]
      · cases h
    · cases h

theorem sort_sim {P : Program} {f : FuncId} (ok : SortOk P f) {r : Rn} {W W' : CW} {w : World} (hs : Sim r W w) {v v' : Value} (hv : VR r v v') (h : sortV v W = some W') :
    Calls P f #[v'] w fun e w' => ∃ v2 r' nl, e = .returned v2 ∧ VR r' (.tuple #[]) v2 ∧ Sim r' W' w' ∧ W'.log = nl ++ W.log ∧ Mv r w nl r' w' := by
  have htup : ∀ r : Rn, VR r (.tuple #[]) (.tuple #[]) := fun r => .tuple _ _ rfl (fun i v v' h => by simp at h)
  unfold sortV at h
  split at h
  · rename_i q n c
    split at h
    · rename_i h0; cases h
      subst h0
      have e1 : ∃ q c, v' = .slice q 0 c := by cases hv <;> exact ⟨_, _, rfl⟩
      obtain ⟨q', c', rfl⟩ := e1
      refine (ok.1 q' c' w).mono fun e w' he => ?_
      obtain ⟨rfl, rfl⟩ := he
      exact ⟨_, r, [], rfl, htup r, hs, rfl, Mv.refl hs.none_ge⟩
    · rename_i h0
      split at h
      · rename_i b off sp
        split at h
        · rename_i cs hg
          split at h
          · rename_i l hl
            split at h
            · rename_i zs hz
              split at h
              · rename_i cs' hput
                split at h
                · rename_i hn; cases h
                  have hl1 := cut_length hl
                  have hl2 := intsOf_eq hz
                  have hzl : zs.length = n := by rw [hl2] at hl1; simpa using hl1
                  cases hv with
                  | slc _ _ _ _ _ ad c' hb hnc hcc he hh =>
                    obtain ⟨p, h1, h2⟩ := hs.place hb hg (by simp)
                    obtain ⟨m1, m2, m3, _⟩ := hh p h1
                    have m4 := m3 (by omega)
                    have had : ad = ⟨p.blk, p.off + off, none⟩ := by
                      obtain ⟨x1, x2, x3⟩ := ad; simp at m1 m2 m4; subst m1; subst m2; subst m4; rfl
                    subst had
                    cases hw : w.heap[p.blk]? with
                    | none => rw [hw] at h2; exact h2.elim
                    | some O =>
                      rw [hw] at h2
                      have h2' : RowR r cs true O p := h2
                      obtain ⟨cc, el, fr, rfl, h3, h4⟩ := h2'
                      obtain ⟨rfl, h5⟩ := h4 rfl
                      have hlt : p.blk < w.heap.size := (Array.getElem?_eq_some_iff.1 hw).1
                      have hcell : ∀ j, j < zs.length → cc[p.off + (off + j)]? = some (.int .i64 zs[j]!) := fun j hj => by
                        have e0 : cs[off + j]? = l[j]? := by
                          have e9 : l = (cs.drop off).take n := by
                            unfold cut at hl
                            split at hl
                            · cases hl; rfl
                            · cases hl
                          rw [e9, List.getElem?_take, if_pos (by omega), List.getElem?_drop]
                        have e1 : cs[off + j]? = some (.int .i64 zs[j]!) := by
                          rw [e0, hl2]; simp [hj]
                        obtain ⟨u, k1, k2⟩ := h3 _ _ e1
                        cases k2
                        exact k1
                      have hH : Go.Sort.Holds (Value.int .i64) w p.blk (p.off + off) zs.toArray := fun j hj => by
                        have hj' : j < zs.length := by simpa using hj
                        have e2 := hcell j hj'
                        rw [← Nat.add_assoc] at e2
                        refine ⟨?_, by simp [World.frozen?, hw]⟩
                        rw [cell_of hw, e2]
                        simp [hj']
                      subst hzl
                      refine (ok.2 p.blk (p.off + off) c' zs w hH hlt (by omega)).mono fun e w' he => ?_
                      obtain ⟨rfl, nn, os, rfl⟩ := he
                      generalize hss : (zs.mergeSort fun x y => decide (x ≤ y)) = ss at hput
                      have hsl : ss.length = zs.length := by rw [← hss, List.length_mergeSort]
                      have hw1 : (Go.Sort.putRow (Value.int .i64) (Go.Sort.ahead w nn) p.blk (p.off + off) ss.toArray).heap[p.blk]? = some (.cells (Go.Sort.putCells (Value.int .i64) (p.off + off) ss.toArray cc) el (0, 0)) := by
                        simp [Go.Sort.putRow, Go.Sort.mapBlock, Go.Sort.ahead, Array.getElem?_modify, hw, Go.Sort.onCells]
                      have hoth : ∀ x, x ≠ p.blk → (Go.Sort.putRow (Value.int .i64) (Go.Sort.ahead w nn) p.blk (p.off + off) ss.toArray).heap[x]? = w.heap[x]? := fun x hx => by
                        have : p.blk ≠ x := fun e => hx e.symm
                        simp [Go.Sort.putRow, Go.Sort.mapBlock, Go.Sort.ahead, Array.getElem?_modify, this]
                      have hstay : Stays w (Go.Sort.putRow (Value.int .i64) (Go.Sort.ahead w nn) p.blk (p.off + off) ss.toArray) := by
                        refine ⟨rfl, rfl, fun a _ => ?_⟩
                        by_cases ha : a.block = p.blk
                        · simp only [World.frozen?, ha, hw1, hw]
                        · simp only [World.frozen?, hoth _ ha]
                      have hsz : (Go.Sort.putRow (Value.int .i64) (Go.Sort.ahead w nn) p.blk (p.off + off) ss.toArray).heap.size = w.heap.size := by
                        simp [Go.Sort.putRow, Go.Sort.mapBlock, Go.Sort.ahead]
                      have hx : VRL r (ss.map (Value.int .i64)) (ss.map (Value.int .i64)) := ⟨rfl, fun i u u' g1 g2 => by
                        rw [g1] at g2; cases g2
                        simp at g1
                        obtain ⟨z, _, rfl⟩ := g1
                        exact .int _ _⟩
                      obtain ⟨s1, s2⟩ := hs.upd (W' := W.putR b cs' off zs.length) (ob := .row cs' true) (e := .at_ b off (off + zs.length)) h1 (not_RO hg) rfl (fun j => CW.get_putR W b j off zs.length cs') (by
                        rw [hw1]
                        refine rowR_puts ⟨cc, el, (0, 0), rfl, h3, h4⟩ hput hx (by simp [Go.Sort.putCells]) fun j => ?_
                        simp only [Go.Sort.putCells, Array.getElem?_mapIdx, List.length_map, List.size_toArray]
                        by_cases hj : p.off + off ≤ j ∧ j < p.off + off + ss.length
                        · rw [if_pos hj]
                          have hjc : j < cc.size := by
                            have hq := hcell (j - (p.off + off)) (by omega)
                            have := (Array.getElem?_eq_some_iff.1 hq).1
                            omega
                          have hjs : j - (p.off + off) < ss.length := by omega
                          simp [hjc, hj, hjs]
                        · rw [if_neg hj]
                          cases hcj : cc[j]? with
                          | none => rfl
                          | some u => simp [hj]) hoth hsz hstay rfl
                      have hheld : Held (Go.Sort.putRow (Value.int .i64) (Go.Sort.ahead w nn) p.blk (p.off + off) ss.toArray) (Go.Sort.grow (Go.Sort.putRow (Value.int .i64) (Go.Sort.ahead w nn) p.blk (p.off + off) ss.toArray) os) := by
                        have hold : ∀ blk, blk < (Go.Sort.putRow (Value.int .i64) (Go.Sort.ahead w nn) p.blk (p.off + off) ss.toArray).heap.size → (Go.Sort.grow (Go.Sort.putRow (Value.int .i64) (Go.Sort.ahead w nn) p.blk (p.off + off) ss.toArray) os).heap[blk]? = (Go.Sort.putRow (Value.int .i64) (Go.Sort.ahead w nn) p.blk (p.off + off) ss.toArray).heap[blk]? := fun blk hb => by
                          simp only [Go.Sort.grow, Array.getElem?_append, hb, if_true]
                        refine ⟨⟨rfl, rfl, fun a ha => ?_⟩, by simp [Go.Sort.grow], hold⟩
                        simp only [World.frozen?, hold _ ha]
                      obtain ⟨t1, t2⟩ := s1.held hheld
                      exact ⟨_, r, [.at_ b off (off + zs.length)], rfl, htup r, t1, rfl, by have := s2.trans t2; simpa using this⟩
                · cases h
              · cases h
            · cases h
          · cases h
        · cases h
      · cases h
  · cases h

theorem rcall_sim (P : Program) (hm : P.follows .mixedOrders = true) {orc : Orc} (horc : OrcOk P orc) : ∀ n, CallSim P (rcall P orc n) := by
  intro n
  induction n with
  | zero => intro f args W v W' hv; cases hv
  | succ n ih =>
    intro f args W v W' hv
    simp only [rcall] at hv
    split at hv
    · rename_i q hq
      subst hv
      unfold ask at hq
      split at hq
      case h_3 => cases hq
      case h_2 =>
        rename_i u ho
        simp only [Option.some.injEq] at hq
        unfold sortR at hq
        split at hq
        · rename_i W1 h1; cases hq
          obtain ⟨g1, g2⟩ := horc f _ ho
          refine ⟨g1, fun r w args' hs hargs => ?_⟩
          obtain ⟨u', rfl⟩ : ∃ u', args' = #[u'] := by
            have := hargs.1
            simp at this
            obtain ⟨l⟩ := args'
            match l, this with
            | [x], _ => exact ⟨x, rfl⟩
          exact sort_sim g2 hs (hargs.2 0 u u' rfl rfl) h1
        · cases hq
      rename_i b hb
      cases hq
      obtain ⟨g1, g2⟩ := horc f _ hb
      refine ⟨g1, fun r w args' hs hargs => ?_⟩
      have e : args' = #[] := by
        have := hargs.1
        simpa using this.symm
      subst e
      refine Calls.mono (g2 w) fun e w' he => ?_
      obtain ⟨rfl, hh⟩ := he
      obtain ⟨k1, k2⟩ := hs.held hh
      exact ⟨_, r, [], rfl, .bool b, k1, rfl, k2⟩
    split at hv
    · cases hv
    · rename_i R hR
      refine ⟨⟨R, hR⟩, fun r w args' hs hargs => ?_⟩
      have hR0 := hR
      unfold rfn at hR
      split at hR
      · rename_i fn hf
        unfold rfunc at hR
        split at hR
        · cases hR
        · rename_i c hc
          split at hR
          · rename_i body res hbody hres
            split at hR
            · cases hR
            · split at hR
              · cases hR
                refine calls_of_wp hf hc ?_
                have hA : AR r fn.ntmps (params 0 args .nil) { tmps := args' ++ Array.replicate (fn.ntmps - args'.size) undef, defers := [] } := by
                  refine ⟨by simp; omega, rfl, fun t u hu => ?_⟩
                  rw [params_get] at hu
                  split at hu
                  · obtain ⟨u', g1, g2⟩ := hargs.get hu
                    have hlt : t < args'.size := by have := (List.getElem?_eq_some_iff.1 g1).1; simpa using this
                    refine ⟨u', ?_, g2⟩
                    simp only
                    rw [Array.getElem?_append_left hlt]
                    simpa using g1
                  · simp at hu
                split at hv
                · cases hv
                · rename_i e a1 W1 hno h1
                  split at hv
                  · rename_i vs h2; cases hv
                    refine (code_sim ih (rcall_both P orc n) (rcall_fresh P orc n) hm (n + 1) c body hbody r _ _ W w _ _ _ hs hA h1 _ fun r' nl act' w' g1 g2 g3 g4 => ?_).1
                    obtain ⟨v', k1, k2⟩ := run_results (P := P) g1 g2 hres h2
                    have fin : act'.defers = [] ∧ ∃ v, (results fn act'.tmps).run P w' = .ok v w' ∧ ∃ v' r'' nl, Ending.returned v = .returned v' ∧ VR r'' (resultOf vs) v' ∧ Sim r'' W' w' ∧ W'.log = nl ++ W.log ∧ Mv r w nl r'' w' :=
                      ⟨g2.defers, v', k1, v', r', nl, rfl, k2, g1, g3, g4⟩
                    cases e with
                    | normal => exact fin
                    | ret => exact fin
                    | exit id => first | exact (hno _ _ rfl).elim | exact (hno _ rfl).elim | exact (hno _ _ _ rfl).elim | exact (hno id rfl).elim
                  · cases hv
                · cases hv
              · cases hR
          · cases hR
      · cases hR

end Go.Can
