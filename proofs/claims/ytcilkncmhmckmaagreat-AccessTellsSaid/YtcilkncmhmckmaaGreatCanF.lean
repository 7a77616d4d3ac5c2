/-
  The canonical semantics: operations that read one block, and operations that make one.
-/
import Derived.Test.YtcilkncmhmckmaaGreatCanE
import Derived.Laws.MakeOwn
namespace Go.Can
open Go
set_option linter.all false

theorem cell_of {w : World} {blk off : Nat} {c : Array Value} {e : TypeId} {fr : Nat × Nat} (h : w.heap[blk]? = some (.cells c e fr)) : w.cell? ⟨blk, off, none⟩ = c[off]? := by
  simp [World.cell?, h]

/-- A run of cells that lie where they should. -/
theorem row_cells {r : Rn} {cs l : List Value} {own : Bool} {o : Obj} {p : Pl} {w : World} (hb : w.heap[p.blk]? = some o) (hr : RowR r cs own o p) {off n : Nat} (hc : cut off n cs = some l) :
    ∃ l' : List Value, VRL r l l' ∧ l'.length = n ∧ ∀ j v, l'[j]? = some v → w.cell? ⟨p.blk, p.off + (off + j), none⟩ = some v := by
  obtain ⟨c, e, fr, rfl, h1, h2⟩ := hr
  obtain ⟨h3, h4⟩ := cut_eq hc
  have key : ∀ j, j < n → ∃ v v', l[j]? = some v ∧ c[p.off + (off + j)]? = some v' ∧ VR r v v' := by
    intro j hj
    have hj' : j < l.length := by omega
    obtain ⟨x, h5⟩ : ∃ x, l[j]? = some x := ⟨l[j], by simp [hj']⟩
    have h6 : cs[off + j]? = some x := by
      have := h5
      rw [h3, List.getElem?_take, if_pos hj, List.getElem?_drop] at this
      exact this
    obtain ⟨v', g1, g2⟩ := h1 _ _ h6
    exact ⟨_, v', h5, g1, g2⟩
  refine ⟨(List.range n).map fun j => (c[p.off + (off + j)]?).getD undefV, ⟨by simp [h4], fun i v v' hv hv' => ?_⟩, by simp, fun j v hv => ?_⟩
  · have hi : i < n := by have := (List.getElem?_eq_some_iff.1 hv).1; omega
    obtain ⟨u, u', g1, g2, g3⟩ := key i hi
    rw [g1] at hv; cases hv
    simp [hi, g2] at hv'
    subst hv'
    exact g3
  · have hj : j < n := by have := (List.getElem?_eq_some_iff.1 hv).1; simpa using this
    obtain ⟨u, u', g1, g2, g3⟩ := key j hj
    simp [hj, g2] at hv
    subst hv
    rw [cell_of hb, g2]

theorem mapFind_spec {r : Rn} {kk : IntKind} {k : Int} : ∀ (es : List (Value × Value)) (en : List MapEntry) (i : Nat) (res : Option (Nat × Value)),
    en.length = es.length → (∀ (j : Nat) (kv vv : Value), es[j]? = some (kv, vv) → ∃ e : MapEntry, en[j]? = some e ∧ VR r kv e.key ∧ VR r vv e.val) → mapFind kk k es i = some res →
    (res = none ∧ ∀ kd : IntKind, Instr.findNow (.int kd) (.int kk k) en i = some none) ∨
    ∃ j v v' e, res = some (i + j, v) ∧ VR r v v' ∧ es[j]? = some (.int kk k, v) ∧ en[j]? = some e ∧ e.val = v' ∧ e.key = .int kk k ∧ ∀ kd : IntKind, Instr.findNow (.int kd) (.int kk k) en i = some (some (i + j, v'))
  | [], en, i, res, hl, hr, hf => by
    simp [mapFind] at hf
    cases en with
    | nil => exact .inl ⟨hf.symm, fun kd => rfl⟩
    | cons e en => simp at hl
  | (kv, vv) :: es, en, i, res, hl, hr, hf => by
    cases en with
    | nil => simp at hl
    | cons e en =>
      obtain ⟨e', h1, h2, h3⟩ := hr 0 kv vv rfl
      simp at h1; subst h1
      cases kv <;> simp only [mapFind] at hf <;> (try (cases hf; done))
      rename_i kk' n
      have hk := h2.int_inv
      split at hf
      · rename_i hkk; subst hkk
        split at hf
        · rename_i hn; subst hn; cases hf
          exact .inr ⟨0, vv, e.val, e, rfl, h3, rfl, rfl, rfl, hk, fun kd => by simp [Instr.findNow, Instr.sameNow, hk]⟩
        · rename_i hn
          rcases mapFind_spec es en (i + 1) res (by simpa using hl) (fun j kv vv hj => hr (j + 1) kv vv (by simpa using hj)) hf with ⟨g1, g2⟩ | ⟨j, v, v', e2, g1, g2, g3, g4, g5, g6, g7⟩
          · have hb : (k == n) = false := by simpa using hn
            exact .inl ⟨g1, fun kd => by simp [Instr.findNow, Instr.sameNow, hk, hb, g2 kd]⟩
          · refine .inr ⟨j + 1, v, v', e2, by rw [g1, Nat.add_assoc, Nat.add_comm 1], g2, by simpa using g3, by simpa using g4, g5, g6, fun kd => ?_⟩
            have hb : (k == n) = false := by simpa using hn
            simp [Instr.findNow, Instr.sameNow, hk, hb, g7 kd]
            omega
      · cases hf

theorem run_checkKey {P : Program} {t : TypeId} {kd kk : IntKind} {k : Int} (h : P.underlying t = some (.int kd)) (b : Bool) (w : World) : (Instr.checkKey b 10000 t (.int kk k)).run P w = .ok () w := by
  have : Instr.checkKey b (9999 + 1) t (.int kk k) = (do match ← underlying t, (Value.int kk k) with
    | .interface _, .iface d x =>
      let info ← typeInfo d
      if !info.comparable then
        if b then runtimePanic (.unhashable d)
        runtimePanic (.error ("hash of unhashable type " ++ (← typeStr d)))
      Instr.checkKey b 9999 d x
    | .array len elem, .agg cs =>
      for i in [0:len] do Instr.checkKey b 9999 elem (← Go.part elem cs (i * (← sizeOf elem)))
    | .struct fields, .agg cs =>
      for f in fields do
        if f.name ≠ "_" then Instr.checkKey b 9999 f.type (← Go.part f.type cs f.offset)
    | .interface _, .nilIface => pure ()
    | .interface _, _ | .array _ _, _ | .struct _, _ => stuck "map key: not a value of its type"
    | _, _ => pure ()) := rfl
  rw [show (10000 : Nat) = 9999 + 1 from rfl, this]
  simp [run_underlying h]

section
variable {P : Program} {r : Rn} {N : Nat} {a : CAct} {act : Act} (h : AR r N a act) (w : World)
include h

/-- What an operation reads of a block that lies where it should. -/
theorem lval_sim (o : Oper) (l : LOp) (hr : rop P o.op = some (.l l)) {b : Nat} (ht : ltarget a l = some (.blk b)) {p : Pl} (hp : r.f b = some p) {ob : CObj} (ho : ObjR r ob (w.heap[p.blk]?) p)
    {v : Value} (hv : lval a l ob = some v) : ∃ v', (execOp act.eval o).run P w = .ok (.value v') w ∧ VR r v v' := by
  obtain ⟨dst, op, type, pos, after, guard⟩ := o
  simp only at hr
  have lift : ∀ (s : Sem Value), (∃ v', s.run P w = .ok v' w ∧ VR r v v') → ∃ v', ((do pure (.value (← s)) : Sem Next)).run P w = .ok (.value v') w ∧ VR r v v' := by
    rintro s ⟨v', h1, h2⟩
    exact ⟨v', by simp [h1], h2⟩
  cases op with
  | load t x =>
    simp only [rop] at hr
    split at hr
    · rename_i k x' hk hx; cases hr
      simp only [ltarget] at ht
      split at ht
      · rename_i b' off sp hu; cases ht
        have he := rxc_ev h hx hu
        generalize hq : act.eval x = u at *
        cases he with
        | ptr _ _ _ ad hb hh =>
          have had := hh p hp
          subst had
          cases ob with
          | row cs own =>
            simp only [lval, hu] at hv
            cases hw : w.heap[p.blk]? with
            | none => rw [hw] at ho; exact ho.elim
            | some obj =>
              rw [hw] at ho
              simp only [ObjR] at ho
              rcases aggK_spec hk w with ⟨n, rfl, g1, g2⟩ | ⟨rfl, g1⟩
              · simp only [part] at hv
                split at hv
                · rename_i l hl; cases hv
                  obtain ⟨l', e1, e2, e3⟩ := row_cells hw ho hl
                  have e4 := run_loadCells_list (P := P) w ⟨p.blk, p.off + off, none⟩ l' (fun j v hj => by
                    have := e3 j v hj
                    rw [add_block (a := ⟨p.blk, p.off + off, none⟩) rfl rfl rfl, Nat.add_assoc]; exact this)
                  rw [e2] at e4
                  exact lift _ ⟨.agg l'.toArray, by simp [Instr.loadAt, Instr.sureAddr, hq, loadVar, g1, g2, e4], VR.arr_of (by simpa using e1)⟩
                · cases hv
              · simp only [part] at hv
                obtain ⟨c, e, fr, rfl, e1, e2⟩ := ho
                obtain ⟨v', e3, e4⟩ := e1 _ _ hv
                exact lift _ ⟨v', by simp [Instr.loadAt, Instr.sureAddr, hq, loadVar, g1, cell_of hw, e3], e4⟩
          | map es => simp [lval] at hv
          | dead => simp [lval] at hv
      · cases ht
    · cases hr
  | lookup t m k ok =>
    simp only [rop] at hr
    split at hr
    · rename_i kt e m' k' hut hm hk
      split at hr
      · rename_i kd z hkt hz; cases hr
        obtain ⟨iz, z1, z2, z3, z4⟩ := zeroC_spec hz
        have hzv : (zeroValue e).run P w = .ok z w := by simp [zeroValue, typeInfo, z1, z2]
        simp only [ltarget] at ht
        split at ht
        · cases ht
        · rename_i mb kk ki hum huk; cases ht
          have he := rxc_ev h hm hum
          have hke := (rxc_ev h hk huk).int_inv
          generalize hq : act.eval m = u at *
          cases he with
          | map _ mb' hb hh =>
            have := hh p hp
            subst this
            cases ob with
            | row cs own => simp [lval] at hv
            | dead => simp [lval] at hv
            | map es =>
              cases hw : w.heap[p.blk]? with
              | none => rw [hw] at ho; exact ho.elim
              | some obj =>
                rw [hw] at ho
                obtain ⟨en, clock, rfl, e1, e2⟩ := ho
                simp only [lval, huk] at hv
                have hgo : (getObj p.blk).run P w = .ok (.map en clock) w := by simp [getObj, Sem.run, hw]
                have hchk := run_checkKey (P := P) hkt en.isEmpty w (kk := kk) (k := ki)
                have htup : ∀ (u u' : Value) (b : Bool), VR r u u' → VR r (.tuple #[u, .bool b]) (.tuple #[u', .bool b]) := fun u u' b hu =>
                  VR.tup_of (l := [u, .bool b]) (c := #[u', .bool b]) (VRL.cons hu (VRL.cons (.bool b) (VRL.nil r)))
                cases hf : mapFind kk ki es 0 with
                | none => rw [hf] at hv; cases hv
                | some res =>
                  rw [hf] at hv
                  rcases mapFind_spec es en.toList 0 res (by simpa using e1) (fun j kv vv hj => by obtain ⟨x, q1, q2⟩ := e2 j kv vv hj; exact ⟨x, by simpa using q1, q2⟩) hf with ⟨rfl, g2⟩ | ⟨j, vv, v', e3, rfl, g2, g3, g4, g5, g6, g7⟩
                  · have hfk : (Instr.findKey kt (.int kk ki) en.toList).run P w = .ok none w := by simp [Instr.findKey, run_underlying hkt, g2 kd]
                    simp only [Option.some.injEq] at hv
                    refine lift _ ?_
                    cases ok with
                    | false => simp at hv; subst hv; exact ⟨z, by simp [Instr.lookup, run_underlying hut, hq, hke, hgo, hchk, hfk, hzv], VR.of_okC r z3⟩
                    | true => simp at hv; subst hv; exact ⟨_, by simp [Instr.lookup, run_underlying hut, hq, hke, hgo, hchk, hfk, hzv], htup _ _ _ (VR.of_okC r z3)⟩
                  · have hfk : (Instr.findKey kt (.int kk ki) en.toList).run P w = .ok (some (0 + j, v')) w := by simp [Instr.findKey, run_underlying hkt, g7 kd]
                    simp only [Option.some.injEq] at hv
                    refine lift _ ?_
                    cases ok with
                    | false => simp at hv; subst hv; exact ⟨v', by simp [Instr.lookup, run_underlying hut, hq, hke, hgo, hchk, hfk], g2⟩
                    | true => simp at hv; subst hv; exact ⟨_, by simp [Instr.lookup, run_underlying hut, hq, hke, hgo, hchk, hfk], htup _ _ _ g2⟩
        · cases ht
      · cases hr
    · cases hr
  | call c =>
    obtain ⟨callee, args, argTypes⟩ := c
    simp only [rop, rcall0] at hr
    split at hr
    · rename_i bi
      obtain ⟨args⟩ := args
      obtain ⟨argTypes⟩ := argTypes
      simp only [rbuiltin] at hr
      split at hr
      · rename_i t x
        split at hr
        · cases hr
        · cases hr
        · cases hr
        · split at hr <;> cases hr
        · rename_i kt e x' hut hx; cases hr
          simp only [ltarget] at ht
          split at ht
          · cases ht
          · rename_i mb hu; cases ht
            have he := rxc_ev h hx hu
            generalize hq : act.eval x = u at *
            cases he with
            | map _ mb' hb hh =>
              have := hh p hp
              subst this
              cases ob with
              | row cs own => simp [lval] at hv
              | dead => simp [lval] at hv
              | map es =>
                cases hw : w.heap[p.blk]? with
                | none => rw [hw] at ho; exact ho.elim
                | some obj =>
                  rw [hw] at ho
                  obtain ⟨en, clock, rfl, e1, e2⟩ := ho
                  simp only [lval, Option.some.injEq] at hv
                  subst hv
                  have hgo : (getObj p.blk).run P w = .ok (.map en clock) w := by simp [getObj, Sem.run, hw]
                  refine ⟨_, call_lift (P := P) h w _ _ rfl dst type pos after guard #[] (fun w => .ok (.value (.int .i64 es.length)) w) (fun consts => ?_), .int _ _⟩
                  have : (Builtin.len_ #[t] type #[.map (some p.blk)]).run P w = .ok (.int .i64 es.length) w := by
                    simp [Builtin.len_, run_underlying hut, hgo, goInt, e1]
                  simp [builtin, hq, this]
          · cases ht
        · cases hr
      · (repeat' split at hr) <;> cases hr
      · (repeat' split at hr) <;> cases hr
      · (repeat' split at hr) <;> cases hr
      · split at hr <;> cases hr
      · split at hr <;> cases hr
      · cases hr
    · split at hr <;> cases hr
    · split at hr <;> cases hr
    · split at hr <;> cases hr
  | binOp op t x y yt => simp only [rop, rbin] at hr; (repeat' split at hr) <;> cases hr
  | makeMap t x => cases x <;> simp only [rop] at hr <;> cases hr
  | _ => simp only [rop] at hr; (repeat' split at hr) <;> cases hr

/-- The same of an operation that needs no block. -/
theorem lnil_sim (o : Oper) (l : LOp) (hr : rop P o.op = some (.l l)) {v : Value} (ht : ltarget a l = some (.val v)) : ∃ v', (execOp act.eval o).run P w = .ok (.value v') w ∧ VR r v v' := by
  obtain ⟨dst, op, type, pos, after, guard⟩ := o
  simp only at hr
  have lift : ∀ (s : Sem Value), (∃ v', s.run P w = .ok v' w ∧ VR r v v') → ∃ v', ((do pure (.value (← s)) : Sem Next)).run P w = .ok (.value v') w ∧ VR r v v' := by
    rintro s ⟨v', h1, h2⟩
    exact ⟨v', by simp [h1], h2⟩
  cases op with
  | load t x =>
    simp only [rop] at hr
    split at hr
    · cases hr
      simp only [ltarget] at ht
      split at ht <;> cases ht
    · cases hr
  | lookup t m k ok =>
    simp only [rop] at hr
    split at hr
    · rename_i kt e m' k' hut hm hk
      split at hr
      · rename_i kd z hkt hz; cases hr
        obtain ⟨iz, z1, z2, z3, z4⟩ := zeroC_spec hz
        have hzv : (zeroValue e).run P w = .ok z w := by simp [zeroValue, typeInfo, z1, z2]
        simp only [ltarget] at ht
        split at ht
        · rename_i kk ki hum huk; cases ht
          have he := rxc_ev h hm hum
          have hke := (rxc_ev h hk huk).int_inv
          generalize hq : act.eval m = u at *
          cases he
          have hchk := run_checkKey (P := P) hkt true w (kk := kk) (k := ki)
          have hfk : (Instr.findKey kt (.int kk ki) []).run P w = .ok none w := by simp [Instr.findKey, run_underlying hkt, Instr.findNow]
          have htup : ∀ (u u' : Value) (b : Bool), VR r u u' → VR r (.tuple #[u, .bool b]) (.tuple #[u', .bool b]) := fun u u' b hu =>
            VR.tup_of (l := [u, .bool b]) (c := #[u', .bool b]) (VRL.cons hu (VRL.cons (.bool b) (VRL.nil r)))
          refine lift _ ?_
          cases ok with
          | false => exact ⟨z, by simp [Instr.lookup, run_underlying hut, hq, hke, hchk, hfk, hzv], VR.of_okC r z3⟩
          | true => exact ⟨_, by simp [Instr.lookup, run_underlying hut, hq, hke, hchk, hfk, hzv], htup _ _ _ (VR.of_okC r z3)⟩
        · cases ht
        · cases ht
      · cases hr
    · cases hr
  | call c =>
    obtain ⟨callee, args, argTypes⟩ := c
    simp only [rop, rcall0] at hr
    split at hr
    · rename_i bi
      obtain ⟨args⟩ := args
      obtain ⟨argTypes⟩ := argTypes
      simp only [rbuiltin] at hr
      split at hr
      · rename_i t x
        split at hr
        · cases hr
        · cases hr
        · cases hr
        · split at hr <;> cases hr
        · rename_i kt e x' hut hx; cases hr
          simp only [ltarget] at ht
          split at ht
          · rename_i hu; cases ht
            have he := rxc_ev h hx hu
            generalize hq : act.eval x = u at *
            cases he
            refine ⟨_, call_lift (P := P) h w _ _ rfl dst type pos after guard #[] (fun w => .ok (.value (.int .i64 0)) w) (fun consts => ?_), .int _ _⟩
            have : (Builtin.len_ #[t] type #[.map none]).run P w = .ok (.int .i64 0) w := by
              simp [Builtin.len_, run_underlying hut, goInt]
            simp [builtin, hq, this]
          · cases ht
          · cases ht
        · cases hr
      · (repeat' split at hr) <;> cases hr
      · (repeat' split at hr) <;> cases hr
      · (repeat' split at hr) <;> cases hr
      · split at hr <;> cases hr
      · split at hr <;> cases hr
      · cases hr
    · split at hr <;> cases hr
    · split at hr <;> cases hr
    · split at hr <;> cases hr
  | binOp op t x y yt => simp only [rop, rbin] at hr; (repeat' split at hr) <;> cases hr
  | makeMap t x => cases x <;> simp only [rop] at hr <;> cases hr
  | _ => simp only [rop] at hr; (repeat' split at hr) <;> cases hr

end

/-! One block more. -/
def Rn.push (r : Rn) (p : Pl) : Rn := ⟨r.N + 1, fun b => b = r.N ∨ r.has b, fun b => if b = r.N then some p else r.f b, fun b h => h.elim (fun e => by omega) (fun e => Nat.lt_succ_of_lt (r.lt b e))⟩

theorem Rn.later_push (r : Rn) (p : Pl) : Later r (r.push p) :=
  ⟨fun b hb => .inr hb, fun b hb x hx => by have := r.lt b hb; simp only [Rn.push] at hx; rw [if_neg (by omega)] at hx; exact hx⟩

theorem reps_length (l : List Value) : ∀ n, (reps n l).length = n * l.length
  | 0 => by simp [reps]
  | n + 1 => by simp [reps, reps_length l n, Nat.succ_mul, Nat.add_comm]

theorem reps_get (l : List Value) (hl : 0 < l.length) : ∀ (n i : Nat), i < n * l.length → (reps n l)[i]? = l[i % l.length]?
  | 0, i, h => by simp at h
  | n + 1, i, h => by
    simp only [reps]
    by_cases hi : i < l.length
    · rw [List.getElem?_append_left hi, Nat.mod_eq_of_lt hi]
    · rw [List.getElem?_append_right (by omega), reps_get l hl n _ (by rw [Nat.succ_mul] at h; omega)]
      rw [← Nat.mod_eq_sub_mod (by omega)]

theorem made_eq (z : Value) (n : Nat) (hz : 0 < z.cells.size) : (madeCells z.cells (n * z.cells.size)).toList = reps n z.cells.toList := by
  apply List.ext_getElem?
  intro i
  have hlen : z.cells.toList.length = z.cells.size := by simp
  by_cases hi : i < n * z.cells.size
  · rw [reps_get z.cells.toList (by omega) n i (by rw [hlen]; exact hi), hlen]
    have hm : i % z.cells.size < z.cells.size := Nat.mod_lt _ hz
    have h1 : (madeCells z.cells (n * z.cells.size))[i]? = some (z.cells[i % z.cells.size]!) := by simp [madeCells, hi]
    rw [Array.getElem?_toList, h1, getElem!_pos z.cells _ hm]
    simp [hm]
  · rw [List.getElem?_eq_none (by simp [size_madeCells]; omega), List.getElem?_eq_none (by rw [reps_length, hlen]; omega)]

theorem cells_eq (v : Value) : cells v = v.cells.toList := by cases v <;> rfl

section
variable {P : Program} {r : Rn} {N : Nat} {a : CAct} {act : Act} (h : AR r N a act) (w : World)
include h

theorem rowR_new {r' : Rn} (hl : Later r r') {cs : List Value} {c : Array Value} (e : TypeId) (hv : VRL r cs c.toList) (blk : Nat) : RowR r' cs true (.cells c e) ⟨blk, 0, 0⟩ := by
  refine ⟨c, e, (0, 0), rfl, fun i v hi => ?_, fun _ => ⟨rfl, by simp⟩⟩
  obtain ⟨v', h1, h2⟩ := hv.get hi
  exact ⟨v', by simpa using h1, h2.mono hl⟩

theorem aop_sim (o : Oper) (ao : AOp) (hr : rop P o.op = some (.a ao)) {ob : CObj} (ho : aobj a ao = some ob) {r1 : Rn} {bn : Nat} (hlat : Later r r1) (hlt : r1.has bn)
    (hat : ∀ q, r1.f bn = some q → q = ⟨w.heap.size, 0, 0⟩) :
    ∃ O v', (execOp act.eval o).run P w = .ok (.value v') (w.alloc O) ∧ ObjR r1 ob (some O) ⟨w.heap.size, 0, 0⟩ ∧ VR r1 (aval a bn ao) v' ∧ ∀ cs, ob ≠ .row cs false := by
  obtain ⟨dst, op, type, pos, after, guard⟩ := o
  simp only at hr
  have hptr : VR r1 (ptr bn 0) (.pointer (some ⟨w.heap.size, 0, none⟩)) := .ptr _ _ _ _ hlt fun q hq => by rw [hat q hq]
  have hslc : ∀ n c, n ≤ c → VR r1 (.slice (some ⟨bn, 0, some 1⟩) n c) (.slice (some ⟨w.heap.size, 0, none⟩) n c) := fun n c hn =>
    .slc _ _ _ _ _ _ _ hlt hn (Nat.le_refl _) (fun _ => rfl) fun q hq => by rw [hat q hq]; exact ⟨rfl, rfl, fun _ => rfl, fun sz hsz => by simp at hsz; omega⟩
  cases op with
  | alloc e =>
    simp only [rop] at hr
    split at hr
    · rename_i z hz; cases hr
      obtain ⟨iz, z1, z2, z3, z4⟩ := zeroC_spec hz
      simp only [aobj, Option.some.injEq] at ho
      subst ho
      refine ⟨.cells z.cells e, _, by simp [execOp, Instr.alloc, zeroValue, typeInfo, z1, z2, newVar, newRow], rowR_new h hlat e (by rw [← cells_eq]; exact VRL.of_okC r z3) _, hptr, by simp⟩
    · cases hr
  | box e x =>
    simp only [rop] at hr
    split at hr
    · rename_i x' hx; cases hr
      simp only [aobj] at ho
      split at ho
      · rename_i v hv; cases ho
        refine ⟨.cells (act.eval x).cells e, _, by simp [execOp, Instr.box, newVar, newRow], rowR_new h hlat e (rxc_ev h hx hv).cells _, hptr, by simp⟩
      · cases ho
    · cases hr
  | buildSlice t n parts =>
    simp only [rop] at hr
    split at hr
    · rename_i e ht
      split at hr
      · rename_i z s hz hs
        split at hr
        · rename_i ps hp
          split at hr
          · rename_i hc; cases hr
            obtain ⟨iz, z1, z2, z3, z4⟩ := zeroC_spec hz
            have hsz : iz.size = s := by simp [sizeC, z1] at hs; exact hs
            have hzs : z.cells.size = s := by rw [← hsz, ← z4, cells_eq]; simp
            simp only [aobj] at ho
            split at ho
            · rename_i cs hf; cases ho
              have hbase : VRL r (reps n (cells z)) (madeCells z.cells (n * s)).toList := by
                rw [← hzs, made_eq z n (by omega), cells_eq]
                rw [← cells_eq]
                exact (VRL.of_okC r z3).reps n
              obtain ⟨l', h3, h4⟩ := fill_sim (P := P) h _ (fun i => some (i * s, s)) (fun i x hx => hx) parts.toList ps _ _ cs hp hbase hf
              refine ⟨.cells l' e, _, ?_, rowR_new h hlat e h4 _, hslc n n (Nat.le_refl _), by simp⟩
              have hno : ¬ (n * s > 2 ^ 24) := by omega
              have hfill : Instr.fill (fun i => some (i * s, s)) (madeCells z.cells (n * s)) (List.map (fun x => (x.fst, act.eval x.snd)) parts.toList) = some l' := by simpa using h3
              by_cases hz0 : n * s = 0
              · have hm0 : madeCells z.cells (n * s) = #[] := by rw [hz0]; simp [madeCells]
                rw [hm0] at hfill
                simp [execOp, Instr.buildSlice, run_underlying ht, run_sizeOf hs, hz0, newRow, hfill, Array.range_zero']
              · simp [madeCells] at hfill
                simp [execOp, Instr.buildSlice, run_underlying ht, run_sizeOf hs, hz0, hno, zeroValue, typeInfo, z1, z2, newRow, hfill]
            · cases ho
          · cases hr
        · cases hr
      · cases hr
    · cases hr
  | makeMap t x =>
    cases x <;> simp only [rop] at hr
    · cases hr
      simp only [aobj, Option.some.injEq] at ho
      subst ho
      refine ⟨.map #[] 0, _, by simp [execOp, Instr.makeMap]; rfl, ⟨#[], 0, rfl, rfl, fun i k v hv => by simp at hv⟩, .map _ _ hlt fun q hq => by rw [hat q hq], by simp⟩
    · cases hr
  | makeSlice t l c =>
    simp only [rop] at hr
    split at hr
    · rename_i e ht
      split at hr
      · rename_i z iz l' c' hz hi hl hc
        split at hr
        · rename_i h0; cases hr
          obtain ⟨iz2, z1, z2, z3, z4⟩ := zeroC_spec hz
          rw [z1] at hi; cases hi
          have hzs : z.cells.size = iz.size := by rw [← z4, cells_eq]; simp
          simp only [aobj] at ho
          split at ho
          · rename_i kl n kc m hul huc
            split at ho
            · rename_i hcond; cases ho
              have e1 := (rxc_ev h hl hul).int_inv
              have e2 := (rxc_ev h hc huc).int_inv
              have hm : (m.toNat : Int) = m := by omega
              have hb : (iz.bytes : Int) * m ≤ 281474976710656 := by
                have h1 : ((m.toNat * iz.bytes : Nat) : Int) ≤ (2 ^ 40 : Nat) := by exact_mod_cast hcond.2.2.2
                rw [Int.natCast_mul, hm, Int.mul_comm] at h1
                omega
              have := run_make (P := P) w t e iz z ht z1 z2 kl kc n m hcond.1 hcond.2.1 hb (by omega)
              refine ⟨_, _, by simp only [execOp, e1, e2]; simp only [Sem.run_bind, this, Result.andThen_ok]; rfl, rowR_new h hlat e ?_ _, ?_, by simp⟩
              · rw [← hzs, made_eq z _ (by omega), cells_eq]
                rw [← cells_eq]
                exact (VRL.of_okC r z3).reps _
              · simp only [aval, hul, huc]
                exact hslc _ _ (by omega)
            · cases ho
          · cases ho
        · cases hr
      · cases hr
    · cases hr
  | call c =>
    obtain ⟨callee, args, argTypes⟩ := c
    simp only [rop, rcall0] at hr
    split at hr
    · simp only [rbuiltin] at hr
      (repeat' split at hr) <;> cases hr
    · split at hr <;> cases hr
    · split at hr <;> cases hr
    · split at hr <;> cases hr
  | binOp op t x y yt => simp only [rop, rbin] at hr; (repeat' split at hr) <;> cases hr
  | _ => simp only [rop] at hr; (repeat' split at hr) <;> cases hr

end

end Go.Can
