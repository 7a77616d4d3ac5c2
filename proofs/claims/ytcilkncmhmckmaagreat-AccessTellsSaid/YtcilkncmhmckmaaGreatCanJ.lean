/-
  The canonical semantics: all operations that write, and those that call, put together.
-/
import Derived.Test.YtcilkncmhmckmaaGreatCanI
namespace Go.Can
open Go
set_option linter.all false

section
variable {P : Program} {r : Rn} {N : Nat} {a : CAct} {act : Act} {W : CW} {w : World} (h : AR r N a act) (hs : Sim r W w)
include h hs

theorem Wrote.skip {s : Sem Unit} {W' : CW} (hh : ∃ w', s.run P w = .ok () w' ∧ Sim r W' w' ∧ ∃ nl, W'.log = nl ++ W.log ∧ Mv r w nl r w') : Wrote P (do s; pure .skip) r W w undefV W' := by
  obtain ⟨w', h1, h2, nl, h3, h4⟩ := hh
  exact ⟨r, nl, undef, w', .skip, by simp [h1], rfl, VR.undef r, h2, h3, h4⟩

theorem xval_sim (o : Oper) (x : XOp) (hr : rop P o.op = some (.x x)) {v : Value} {W' : CW} (hv : xop P a x W = some (.value v, W')) :
    Wrote P (execOp act.eval o) r W w v W' := by
  obtain ⟨dst, op, type, pos, after, guard⟩ := o
  simp only at hr
  cases op with
  | store t p y =>
    simp only [rop] at hr
    split at hr
    · rename_i n p' y' hn hp hy; cases hr
      simp only [xop] at hv
      split at hv
      · rename_i pv yv hpv hyv
        split at hv
        · rename_i W1 hst; cases hv
          exact Wrote.skip h hs (store_sim hs hn (rxc_ev h hp hpv) (rxc_ev h hy hyv) hst)
        · cases hv
      · cases hv
    · cases hr
  | mapUpdate t m k y =>
    simp only [rop] at hr
    split at hr
    · rename_i kt et m' k' y' ht hm hk hy
      split at hr
      · rename_i kd hkd; cases hr
        simp only [xop] at hv
        split at hv
        · rename_i mb kk ki yv hmv hkv hyv
          split at hv
          · rename_i es hg
            have e1 := (rxc_ev h hk hkv).int_inv
            split at hv
            · rename_i i u hf; cases hv
              refine Wrote.skip h hs ?_
              rw [e1]
              exact mput_sim hs ht hkd (rxc_ev h hm hmv) (rxc_ev h hy hyv) hg (.inl ⟨i, u, hf, rfl⟩)
            · rename_i hf; cases hv
              refine Wrote.skip h hs ?_
              rw [e1]
              exact mput_sim hs ht hkd (rxc_ev h hm hmv) (rxc_ev h hy hyv) hg (.inr ⟨hf, rfl⟩)
            · cases hv
          · cases hv
        · cases hv
      · cases hr
    · cases hr
  | call c =>
    obtain ⟨callee, args, argTypes⟩ := c
    simp only [rop] at hr
    unfold rcall0 at hr
    simp only at hr
    split at hr
    · rename_i b
      obtain ⟨args⟩ := args
      obtain ⟨argTypes⟩ := argTypes
      simp only [rbuiltin] at hr
      split at hr
      · (repeat' split at hr) <;> cases hr
      · rename_i t u s y
        split at hr
        · rename_i e ue s' y' ht hu hs' hy
          split at hr
          · rename_i i z hi hz
            split at hr
            · rename_i hsz; cases hr
              simp only [xop] at hv
              split at hv
              · rename_i sv yv hsv hyv
                split at hv
                · rename_i v1 W1 hap; cases hv
                  obtain ⟨r', nl, v', w', g1, g2, g3, g4, g5⟩ := app_sim hs (P := P) (ty := type) ht hu hi hz hsz (rxc_ev h hs' hsv) (rxc_ev h hy hyv) hap
                  refine ⟨r', nl, v', w', .value v', ?_, rfl, g2, g3, g4, g5⟩
                  refine call_lift (P := P) h w _ _ rfl dst type pos after guard #[] (fun _ => .ok (.value v') w') (fun consts => ?_)
                  simp [builtin, g1]
                · cases hv
              · cases hv
            · cases hr
          · cases hr
        · cases hr
      · rename_i t u s y
        split at hr
        · rename_i e s' y' ht hs' hy
          split at hr
          · rename_i i hi; cases hr
            simp only [xop] at hv
            split at hv
            · rename_i sv yv hsv hyv
              split at hv
              · rename_i v1 W1 hap; cases hv
                obtain ⟨w', g1, g2, g3, nl, g4, g5⟩ := cpy_sim hs (P := P) (sT := u) (ty := type) (size := i.size) ht (by simp [sizeC, hi]) (rxc_ev h hs' hsv) (rxc_ev h hy hyv) hap
                refine ⟨r, nl, v, w', .value v, ?_, rfl, g2, g3, g4, g5⟩
                refine call_lift (P := P) h w _ _ rfl dst type pos after guard #[] (fun _ => .ok (.value v) w') (fun consts => ?_)
                simp [builtin, g1]
              · cases hv
            · cases hv
          · cases hr
        · cases hr
      · rename_i t s
        split at hr
        · rename_i e s' ht hs'
          split at hr
          · rename_i z hz; cases hr
            simp only [xop] at hv
            split at hv
            · rename_i sv hsv
              split at hv
              · rename_i W1 hap; cases hv
                obtain ⟨w', g1, g2, nl, g4, g5⟩ := clr_sim hs (P := P) (ty := type) ht hz (rxc_ev h hs' hsv) hap
                refine ⟨r, nl, .tuple #[], w', .value (.tuple #[]), ?_, rfl, VR.undef r, g2, g4, g5⟩
                refine call_lift (P := P) h w _ _ rfl dst type pos after guard #[] (fun _ => .ok (.value (.tuple #[])) w') (fun consts => ?_)
                simp [builtin, g1]
              · cases hv
            · cases hv
          · cases hr
        · cases hr
      · (repeat' split at hr) <;> cases hr
      · (repeat' split at hr) <;> cases hr
      · cases hr
    · split at hr
      · cases hr
        simp only [xop] at hv
        (repeat' split at hv) <;> cases hv
      · cases hr
    · split at hr
      · cases hr
        simp only [xop] at hv
        (repeat' split at hv) <;> cases hv
      · cases hr
    · split at hr
      · cases hr
        simp only [xop] at hv
        (repeat' split at hv) <;> cases hv
      · cases hr
  | makeMap t q => cases q <;> simp [rop] at hr
  | _ => simp only [rop, rbin] at hr <;> (repeat' split at hr) <;> cases hr

theorem run_callFunc {f : FuncId} {R : RFunc} (hR : rfn P f = some R) (args : Array Value) : (callFunc f args).run P w = .ok (.enter f args) w := by
  unfold rfn at hR
  split at hR
  · rename_i fn hf
    unfold rfunc at hR
    split at hR
    · cases hR
    · rename_i c hc
      split at hR
      · split at hR
        · cases hR
        · rename_i hn
          have hn' : (fn.name == "runtime.NumGoroutine") = false := by simpa only [Bool.not_eq_true] using hn
          simp only [beq_eq_false_iff_ne] at hn'
          simp [callFunc, hf, hn', hc]
      · cases hR
  · cases hR

theorem run_method {t : TypeId} {name : String} {f : FuncId} (hm : cmethod P t name = some f) (v : Value) (d : Nat) : (method (d + 1) t v name).run P w = .ok (f, v) w := by
  unfold cmethod at hm
  split at hm
  · rename_i i hi
    split at hm
    · rename_i m hf
      split at hm
      · rename_i hp
        have hp' : m.path.toList = [] := by simpa using hp
        split at hm
        · rename_i hq hu; cases hm
          simp [method, typeInfo, hi, hf, hp', follow, hq, receiverAt, run_underlying hu, Place.get]
        · cases hm
        · rename_i u hno hq hu; cases hm
          cases u <;> first | exact absurd rfl (hno _) | simp [method, typeInfo, hi, hf, hp', follow, hq, receiverAt, run_underlying hu, Place.get]
        · cases hm
      · cases hm
    · cases hm
  · cases hm

theorem xcall_sim (o : Oper) (x : XOp) (hr : rop P o.op = some (.x x)) {f : FuncId} {args : List Value} {W' : CW} (hv : xop P a x W = some (.enter f args, W')) {R : RFunc} (hR : rfn P f = some R) :
    W' = W ∧ ∃ args', (execOp act.eval o).run P w = .ok (.enter f args') w ∧ VRL r args args'.toList := by
  obtain ⟨dst, op, type, pos, after, guard⟩ := o
  simp only at hr
  cases op with
  | call c =>
    obtain ⟨callee, args0, argTypes⟩ := c
    simp only [rop] at hr
    unfold rcall0 at hr
    simp only at hr
    split at hr
    · rename_i b
      simp only [rbuiltin] at hr
      (repeat' split at hr) <;> cases hr <;> simp only [xop] at hv <;> (repeat' split at hv) <;> cases hv
    · rename_i rc name
      split at hr
      · rename_i r' xs hrc hxs; cases hr
        simp only [xop] at hv
        split at hv
        · rename_i t v vs hrv hvs
          split at hv
          · rename_i f' hm; cases hv
            have e1 := rxc_ev h hrc hrv
            have e2 := rxs_evs h _ _ _ hxs hvs
            generalize hq : act.eval rc = u at *
            cases e1 with
            | iface _ _ v' e3 =>
              obtain ⟨d, hd⟩ : ∃ d, P.types.size + Made.depth = d + 1 := ⟨P.types.size + Made.depth - 1, by simp [Made.depth]⟩
              refine ⟨rfl, #[v'] ++ args0.map act.eval, ?_, ?_⟩
              · have := run_method (P := P) h hs hm v' d
                have hc := fun args => run_callFunc (P := P) h hs hR args
                have e0 : (#[Value.iface t v'] ++ args0.map act.eval)[0]? = some (.iface t v') := by rw [Array.getElem?_append_left (by simp)]; rfl
                have ex : (#[Value.iface t v'] ++ args0.map act.eval).extract 1 (#[Value.iface t v'] ++ args0.map act.eval).size = args0.map act.eval := by
                  apply Array.ext'
                  simp [List.take_of_length_le]
                simp only [execOp, resolve, hq, invoke, callMethod, Sem.run_bind, Sem.run_pure, Result.andThen_ok, e0, ex]
                simp [hd, this, hc]
              · have : (#[v'] ++ args0.map act.eval).toList = v' :: (args0.toList.map act.eval) := by simp
                rw [this]
                exact VRL.cons e3 e2
          · cases hv
        · cases hv
      · cases hr
    · rename_i g
      split at hr
      · rename_i xs hxs; cases hr
        simp only [xop] at hv
        split at hv
        · rename_i vs hvs; cases hv
          have hc := fun args => run_callFunc (P := P) h hs hR args
          refine ⟨rfl, args0.map act.eval, ?_, by simpa using rxs_evs h _ _ _ hxs hvs⟩
          simp [execOp, resolve, Act.eval, Deferred.ofValue, invoke, hc]
        · cases hv
      · cases hr
    · rename_i fo hno
      split at hr
      · rename_i f' xs hf hxs; cases hr
        simp only [xop] at hv
        split at hv
        · rename_i g first cap vs hfv hvs; cases hv
          have e1 := rxc_ev h hf hfv
          have e2 := rxs_evs h _ _ _ hxs hvs
          generalize hq : act.eval fo = u at *
          cases e1 with
          | func _ _ _ f1 c1 g1 g2 g3 g4 =>
            have hc := fun args => run_callFunc (P := P) h hs hR args
            refine ⟨rfl, f1 ++ args0.map act.eval ++ c1, ?_, ?_⟩
            · simp [execOp, resolve, hq, Deferred.ofValue, invoke, hc]
            · have k1 : VRL r first.toList f1.toList := ⟨by simpa using g1, fun i x x' hx hx' => g3 i x x' (by simpa using hx) (by simpa using hx')⟩
              have k2 : VRL r cap.toList c1.toList := ⟨by simpa using g2, fun i x x' hx hx' => g4 i x x' (by simpa using hx) (by simpa using hx')⟩
              have := k1.append (e2.append k2)
              simpa using this
        · cases hv
      · cases hr
  | makeMap t q => cases q <;> simp [rop] at hr
  | _ => simp only [rop, rbin] at hr <;> (repeat' split at hr) <;> cases hr <;> simp only [xop] at hv <;> (repeat' split at hv) <;> cases hv

end

end Go.Can
