/-
  The canonical semantics: steps, and regions in the order of the text.
-/
import Derived.Test.YtcilkncmhmckmaaGreatCanJ
import Derived.Test.YtcilkncmhmckmaaGreatCanK
import Derived.Orders
import Derived.Scope
namespace Go.Can
open Go
set_option linter.all false

/-- A canonical call tells what the model's call does. -/
def CallSim (P : Program) (call : CCall) : Prop :=
  ∀ (f : FuncId) (args : List Value) (W : CW) (v : Value) (W' : CW), call f args W = some (v, W') → (∃ R, rfn P f = some R) ∧
    ∀ (r : Rn) (w : World) (args' : Array Value), Sim r W w → VRL r args args'.toList →
      Calls P f args' w fun e w' => ∃ v' r' nl, e = .returned v' ∧ VR r' v v' ∧ Sim r' W' w' ∧ W'.log = nl ++ W.log ∧ Mv r w nl r' w'

section
variable {P : Program} {call : CCall} (hcall : CallSim P call) {N : Nat} {Q : Exit → Act → World → Prop}

theorem ltarget_has {r : Rn} {a : CAct} {act : Act} (h : AR r N a act) (o : Oper) (l : LOp) (hr : rop P o.op = some (.l l)) {b : Nat} (ht : ltarget a l = some (.blk b)) : r.has b := by
  obtain ⟨dst, op, type, pos, after, guard⟩ := o
  simp only at hr
  cases op with
  | load t x =>
    simp only [rop] at hr
    split at hr
    · rename_i k x' hk hx; cases hr
      simp only [ltarget] at ht
      split at ht
      · rename_i b' off sp hu; cases ht
        have he := rxc_ev h hx hu
        generalize hq : act.eval x = u at *
        cases he; assumption
      · cases ht
    · cases hr
  | lookup t m k ok =>
    simp only [rop] at hr
    split at hr
    · rename_i kt e m' k' hut hm hk
      split at hr
      · rename_i kd z hkt hz; cases hr
        simp only [ltarget] at ht
        split at ht
        · cases ht
        · rename_i mb kk ki hum huk; cases ht
          have he := rxc_ev h hm hum
          generalize hq : act.eval m = u at *
          cases he; assumption
        · cases ht
      · cases hr
    · cases hr
  | call c =>
    obtain ⟨callee, args, argTypes⟩ := c
    simp only [rop, rcall0] at hr
    split at hr
    · rename_i bi
      obtain ⟨args⟩ := args
      obtain ⟨argTypes⟩ := argTypes
      simp only [rbuiltin] at hr
      split at hr
      · rename_i t x
        split at hr
        · cases hr
        · cases hr
        · cases hr
        · split at hr <;> cases hr
        · rename_i kt e x' hut hx; cases hr
          simp only [ltarget] at ht
          split at ht
          · cases ht
          · rename_i mb hu; cases ht
            have he := rxc_ev h hx hu
            generalize hq : act.eval x = u at *
            cases he; assumption
          · cases ht
        · cases hr
      all_goals ((repeat' split at hr) <;> cases hr)
    · split at hr <;> cases hr
    · split at hr <;> cases hr
    · split at hr <;> cases hr
  | makeMap t q => cases q <;> simp [rop] at hr
  | _ => simp only [rop, rbin] at hr <;> (repeat' split at hr) <;> cases hr

theorem push_next {r : Rn} {W : CW} {w : World} (hs : Sim r W w) (p : Pl) : ∀ q, (r.push p).f W.next = some q → q = p := by
  intro q hq
  simp only [Rn.push] at hq
  rw [if_pos hs.n.symm] at hq
  cases hq; rfl

include hcall in
theorem doX_sim {o : Oper} {x : XOp} {r : Rn} {a : CAct} {act : Act} {W W' : CW} {w : World} {v : Value} (hop : rop P o.op = some (.x x)) (hs : Sim r W w) (ha : AR r N a act) (hv : doX P call a x W = some (v, W'))
    {K : Act → World → Prop} (hK : ∀ r' nl v' w', VR r' v v' → Sim r' W' w' → W'.log = nl ++ W.log → Mv r w nl r' w' → K (act.put o.dst v') w') : o.wp P act w K Q := by
  unfold doX at hv
  split at hv
  · rename_i v1 W1 h1; cases hv
    obtain ⟨r', nl, v', w', nx, g1, g2, g3, g4, g5, g6⟩ := xval_sim ha hs o x hop h1
    unfold Oper.wp
    rw [g1]
    cases nx with
    | value u => simp [nextVal] at g2; subst g2; exact hK _ _ _ _ g3 g4 g5 g6
    | skip => simp [nextVal] at g2; subst g2; exact hK _ _ _ _ g3 g4 g5 g6
    | _ => simp [nextVal] at g2
  · rename_i f args W1 h1
    obtain ⟨⟨R, hR⟩, g0⟩ := hcall _ _ _ _ _ hv
    obtain ⟨rfl, args', g1, g2⟩ := xcall_sim ha hs o x hop h1 hR
    unfold Oper.wp
    rw [g1]
    refine Calls.mono (g0 r w args' hs g2) fun e w' he => ?_
    obtain ⟨v', r', nl, rfl, g3, g4, g5, g6⟩ := he
    exact hK _ _ _ _ g3 g4 g5 g6
  · cases hv

include hcall in
theorem doOp_sim {o : Oper} {x : ROp} {r : Rn} {a : CAct} {act : Act} {W W' : CW} {w : World} {v : Value} (hop : rop P o.op = some x) (hs : Sim r W w) (ha : AR r N a act) (hv : doOp P call a x W = some (v, W'))
    {K : Act → World → Prop} (hK : ∀ r' nl v' w', VR r' v v' → Sim r' W' w' → W'.log = nl ++ W.log → Mv r w nl r' w' → K (act.put o.dst v') w') : o.wp P act w K Q := by
  cases x with
  | p x =>
    simp only [doOp] at hv
    split at hv
    · rename_i v1 h1; cases hv
      obtain ⟨v', g1, g2⟩ := pop_sim ha w o x hop v h1
      unfold Oper.wp
      rw [g1]
      exact hK _ _ _ _ g2 hs rfl (Mv.refl hs.none_ge)
    · cases hv
  | l x =>
    simp only [doOp] at hv
    split at hv
    · rename_i v1 h1; cases hv
      have key : ∃ v', (execOp act.eval o).run P w = .ok (.value v') w ∧ VR r v v' := by
        unfold lop at h1
        split at h1
        · rename_i u hu; cases h1
          exact lnil_sim ha w o x hop hu
        · rename_i b hb
          split at h1
          · rename_i ob hg
            have hd : ob ≠ .dead := by
              intro e; subst e
              cases x <;> simp [lval] at h1
            have hbN : r.has b := ltarget_has ha o x hop hb
            obtain ⟨p, hp, hob⟩ := hs.place hbN hg hd
            exact lval_sim ha w o x hop hb hp hob h1
          · cases h1
        · cases h1
      obtain ⟨v', g1, g2⟩ := key
      unfold Oper.wp
      rw [g1]
      exact hK _ _ _ _ g2 hs rfl (Mv.refl hs.none_ge)
    · cases hv
  | a x =>
    simp only [doOp] at hv
    split at hv
    · rename_i ob h1; cases hv
      obtain ⟨O, v', g1, g2, g3, g4⟩ := aop_sim ha w o x hop h1 (r.later_push ⟨w.heap.size, 0, 0⟩) (bn := W.next) (.inl hs.n.symm) (push_next hs _)
      obtain ⟨g5, g6⟩ := hs.push (ob := ob) (tot := 0) (O := O) g2 g4
      unfold Oper.wp
      rw [g1]
      exact hK _ _ _ _ g3 g5 rfl g6
    · cases hv
  | x x => exact doX_sim hcall hop hs ha hv hK
end

end Go.Can
