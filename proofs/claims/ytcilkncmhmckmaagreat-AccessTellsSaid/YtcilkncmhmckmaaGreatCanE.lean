/-
  The canonical semantics: the pure operations, put together.
-/
import Derived.Test.YtcilkncmhmckmaaGreatCanD
namespace Go.Can
open Go
set_option linter.all false

theorem zeroC_spec {P : Program} {t : TypeId} {z : Value} (h : zeroC P t = some z) : ∃ i, P.info? t = some i ∧ i.zero = some z ∧ okC z = true ∧ (cells z).length = i.size := by
  unfold zeroC at h
  split at h
  · rename_i i hi
    split at h
    · rename_i z' hz
      split at h
      · rename_i hc; cases h; exact ⟨i, hi, hz, hc.1, hc.2⟩
      · cases h
    · cases h
  · cases h

theorem okC_agg {r : Rn} {z : Array Value} (h : okC (.agg z) = true) : VRL r z.toList z.toList := by
  have := VRL.of_okC r h
  simpa [cells] using this

theorem mapM_sizes {P : Program} (fs : List Field) (h : fs.all (fun f => (sizeC P f.type).isSome) = true) :
    ∃ pl, fs.mapM (fun f => (P.info? f.type).map fun i => (f.offset, i.size)) = some pl ∧ ∀ (i : Nat) f, fs[i]? = some f → ∃ s, sizeC P f.type = some s ∧ pl[i]? = some (f.offset, s) := by
  induction fs with
  | nil => exact ⟨[], rfl, fun i f hf => by simp at hf⟩
  | cons f fs ih =>
    simp only [List.all_cons, Bool.and_eq_true] at h
    obtain ⟨pl, h1, h2⟩ := ih h.2
    cases hi : P.info? f.type with
    | none => simp [sizeC, hi] at h
    | some i =>
      refine ⟨(f.offset, i.size) :: pl, by simp [hi, h1], fun j g hg => ?_⟩
      cases j with
      | zero => simp at hg; subst hg; exact ⟨i.size, by simp [sizeC, hi], rfl⟩
      | succ j => obtain ⟨s, a, b⟩ := h2 j g (by simpa using hg); exact ⟨s, a, by simpa using b⟩

section
variable {P : Program} {r : Rn} {N : Nat} {a : CAct} {act : Act} (h : AR r N a act) (w : World)
include h

theorem sim_build_struct {t : TypeId} {z : Array Value} {fs : Array Field} {parts : Array (Nat × Operand)} {ps : List (Nat × Nat × RX)} (hz : zeroC P t = some (.agg z)) (ht : P.underlying t = some (.struct fs))
    (hp : rparts P (fun i => match fs[i]? with | some f => (match sizeC P f.type with | some s => some (f.offset, s) | none => none) | none => none) parts.toList = some ps)
    (hall : fs.toList.all (fun f => (sizeC P f.type).isSome) = true) {v : Value} (hv : pop P a (.build z.toList ps) = some v) :
    ∃ v', (Instr.build t (parts.map fun (i, x) => (i, act.eval x))).run P w = .ok v' w ∧ VR r v v' := by
  obtain ⟨i, hi, hiz, hok, hlen⟩ := zeroC_spec hz
  obtain ⟨pl, h1, h2⟩ := mapM_sizes fs.toList hall
  simp only [pop] at hv
  split at hv
  · rename_i cs hf
    cases hv
    obtain ⟨l', h3, h4⟩ := fill_sim (P := P) h _ (fun i => pl[i]?) (fun i x hx => by
      split at hx
      · rename_i f hf
        obtain ⟨s, g1, g2⟩ := h2 i f (by simpa using hf)
        rw [g1] at hx
        cases hx
        exact g2
      · cases hx) parts.toList ps z.toList z cs hp (okC_agg hok) hf
    refine ⟨.agg l', run_build w t _ l' ?_, VR.arr_of (by simpa using h4)⟩
    simp only [Program.built, hi, ht, hiz, h1]
    simpa [Value.cells] using h3
  · cases hv

theorem sim_build_array {t e : TypeId} {n s : Nat} {z : Array Value} {parts : Array (Nat × Operand)} {ps : List (Nat × Nat × RX)} (hz : zeroC P t = some (.agg z)) (ht : P.underlying t = some (.array n e)) (hs : sizeC P e = some s)
    (hp : rparts P (fun i => some (i * s, s)) parts.toList = some ps) {v : Value} (hv : pop P a (.build z.toList ps) = some v) :
    ∃ v', (Instr.build t (parts.map fun (i, x) => (i, act.eval x))).run P w = .ok v' w ∧ VR r v v' := by
  obtain ⟨i, hi, hiz, hok, hlen⟩ := zeroC_spec hz
  simp only [pop] at hv
  split at hv
  · rename_i cs hf
    cases hv
    obtain ⟨l', h3, h4⟩ := fill_sim (P := P) h _ (fun i => some (i * s, s)) (fun i x hx => hx) parts.toList ps z.toList z cs hp (okC_agg hok) hf
    cases hie : P.info? e with
    | none => simp [sizeC, hie] at hs
    | some ie =>
      simp [sizeC, hie] at hs
      refine ⟨.agg l', run_build w t _ l' ?_, VR.arr_of (by simpa using h4)⟩
      simp only [Program.built, hi, ht, hiz, hie, hs]
      simpa [Value.cells] using h3
  · cases hv

theorem call_lift (c : Call) (b : Builtin) (hc : c.callee = .builtin b) (dst : Option Tmp) (type : TypeId) (pos : String) (after : Array Edge) (guard : Option (Nat × Bool)) (consts : Array Bool) (nx : World → Result Next)
    (hb : ∀ consts, (builtin b c.argTypes type consts (c.args.map act.eval)).run P w = nx w) :
    (execOp act.eval ⟨dst, .call c, type, pos, after, guard⟩).run P w = nx w := by
  simp only [execOp, resolve, hc, Sem.run_bind, Sem.run_pure, Result.andThen_ok, invoke]
  exact hb _

theorem pcall_sim (c : Call) (dst : Option Tmp) (type : TypeId) (pos : String) (after : Array Edge) (guard : Option (Nat × Bool)) (p : POp) (hr : rcall0 P c = some (.p p)) (v : Value) (hv : pop P a p = some v) :
    ∃ v', (execOp act.eval ⟨dst, .call c, type, pos, after, guard⟩).run P w = .ok (.value v') w ∧ VR r v v' := by
  obtain ⟨callee, args, argTypes⟩ := c
  unfold rcall0 at hr
  simp only at hr
  split at hr
  · rename_i b
    obtain ⟨args⟩ := args
    obtain ⟨argTypes⟩ := argTypes
    simp only [rbuiltin] at hr
    have lift : ∀ (s : Sem Value) v', s.run P w = .ok v' w → ((do pure (.value (← s)) : Sem Next)).run P w = .ok (.value v') w := by
      intro s v' h1
      simp [h1]
    split at hr
    · rename_i t x
      split at hr
      · rename_i x' ht hx; cases hr
        simp only [pop] at hv
        split at hv
        · rename_i s hu; cases hv
          have e := (rxc_ev h hx hu).str_inv
          refine ⟨_, call_lift (P := P) h w _ _ rfl dst type pos after guard #[] (fun w => .ok (.value (.int .i64 s.size)) w) (fun consts => lift _ _ ?_), .int _ _⟩
          simp [Builtin.len_, run_underlying ht, goInt, e]
        · cases hv
      · rename_i e x' ht hx; cases hr
        simp only [pop] at hv
        split at hv
        · rename_i b n c hu; cases hv
          have e1 := rxc_ev h hx hu
          generalize hq : act.eval x = u at *
          refine ⟨_, call_lift (P := P) h w _ _ rfl dst type pos after guard #[] (fun w => .ok (.value (.int .i64 n)) w) (fun consts => lift _ _ ?_), .int _ _⟩
          cases e1 <;> simp [Builtin.len_, run_underlying ht, goInt, hq]
        · cases hv
      · rename_i n e x' ht hx; cases hr
        simp only [pop] at hv
        split at hv
        · rename_i u hu; cases hv
          refine ⟨_, call_lift (P := P) h w _ _ rfl dst type pos after guard #[] (fun w => .ok (.value (.int .i64 n)) w) (fun consts => lift _ _ ?_), .int _ _⟩
          simp [Builtin.len_, run_underlying ht, goInt]
        · cases hv
      · rename_i e x' ht hx
        split at hr
        · rename_i n e2 ht2; cases hr
          simp only [pop] at hv
          split at hv
          · rename_i u hu; cases hv
            refine ⟨_, call_lift (P := P) h w _ _ rfl dst type pos after guard #[] (fun w => .ok (.value (.int .i64 n)) w) (fun consts => lift _ _ ?_), .int _ _⟩
            simp [Builtin.len_, run_underlying ht, run_underlying ht2, goInt]
          · cases hv
        · cases hr
      · cases hr
      · cases hr
    · (repeat' split at hr) <;> cases hr
    · (repeat' split at hr) <;> cases hr
    · (repeat' split at hr) <;> cases hr
    · rename_i ts x y
      split at hr
      · rename_i x' y' hx hy; cases hr
        simp only [pop] at hv
        split at hv
        · rename_i k m k' n hu hu'
          split at hv
          · rename_i hk; subst hk; cases hv
            have e1 := (rxc_ev h hx hu).int_inv
            have e2 := (rxc_ev h hy hu').int_inv
            refine ⟨_, call_lift (P := P) h w _ _ rfl dst type pos after guard #[] (fun w => .ok (.value (.int k (if n > m then n else m))) w) (fun consts => lift _ _ ?_), .int _ _⟩
            simp [Builtin.max_, Builtin.max2, e1, e2]
          · cases hv
        · cases hv
      · cases hr
    · rename_i ts x y
      split at hr
      · rename_i x' y' hx hy; cases hr
        simp only [pop] at hv
        split at hv
        · rename_i k m k' n hu hu'
          split at hv
          · rename_i hk; subst hk; cases hv
            have e1 := (rxc_ev h hx hu).int_inv
            have e2 := (rxc_ev h hy hu').int_inv
            refine ⟨_, call_lift (P := P) h w _ _ rfl dst type pos after guard #[] (fun w => .ok (.value (.int k (if n < m then n else m))) w) (fun consts => lift _ _ ?_), .int _ _⟩
            simp [Builtin.min_, Builtin.min2, e1, e2]
          · cases hv
        · cases hv
      · cases hr
    · cases hr
  · split at hr <;> cases hr
  · split at hr <;> cases hr
  · split at hr <;> cases hr

theorem pop_sim (o : Oper) (p : POp) (hr : rop P o.op = some (.p p)) (v : Value) (hv : pop P a p = some v) :
    ∃ v', (execOp act.eval o).run P w = .ok (.value v') w ∧ VR r v v' := by
  obtain ⟨dst, op, type, pos, after, guard⟩ := o
  simp only at hr
  have lift : ∀ (s : Sem Value), (∃ v', s.run P w = .ok v' w ∧ VR r v v') → ∃ v', ((do pure (.value (← s)) : Sem Next)).run P w = .ok (.value v') w ∧ VR r v v' := by
    rintro s ⟨v', h1, h2⟩
    exact ⟨v', by simp [h1], h2⟩
  cases op with
  | move x =>
    simp only [rop] at hr
    split at hr
    · rename_i x' hx; cases hr; exact ⟨_, rfl, rxc_ev h hx hv⟩
    · cases hr
  | assign x =>
    simp only [rop] at hr
    split at hr
    · rename_i x' hx; cases hr; exact ⟨_, rfl, rxc_ev h hx hv⟩
    · cases hr
  | pick c x y =>
    simp only [rop] at hr
    split at hr
    · rename_i c' x' y' hc hx hy; cases hr; exact sim_pick h w hc hx hy hv
    · cases hr
  | alloc e => simp only [rop] at hr; split at hr <;> cases hr
  | box e x => simp only [rop] at hr; split at hr <;> cases hr
  | build t parts =>
    simp only [rop] at hr
    split at hr
    · rename_i z fs hz ht
      split at hr
      · rename_i ps hp
        split at hr
        · rename_i hall; cases hr
          exact lift _ (sim_build_struct h w hz ht hp hall hv)
        · cases hr
      · cases hr
    · rename_i z n e hz ht
      split at hr
      · rename_i s hs
        split at hr
        · rename_i ps hp; cases hr
          exact lift _ (sim_build_array h w hz ht hs hp hv)
        · cases hr
      · cases hr
    · cases hr
  | buildSlice t n parts => simp only [rop] at hr; (repeat' split at hr) <;> cases hr
  | insert t m k x => simp only [rop] at hr; cases hr
  | load t x => simp only [rop] at hr; split at hr <;> cases hr
  | store t x y => simp only [rop] at hr; split at hr <;> cases hr
  | ready g => simp only [rop] at hr; cases hr
  | waits g => simp only [rop] at hr; cases hr
  | nilCheck x =>
    simp only [rop] at hr
    split at hr
    · rename_i x' hx; cases hr; exact sim_nchk h w hx hv _ _ _ _ _
    · cases hr
  | binOp op t x y yt =>
    simp only [rop, rbin] at hr
    split at hr
    · rename_i x' y' hx hy
      have bins : ∀ op' : BinOp, op' = op → p = .bin op' x' y' → ∃ v', (execOp act.eval ⟨dst, .binOp op t x y yt, type, pos, after, guard⟩).run P w = .ok (.value v') w ∧ VR r v v' := by
        rintro op' rfl rfl
        simp only [pop] at hv
        split at hv
        · rename_i u1 u2 h1 h2
          have e1 := rxc_ev h hx h1
          have e2 := rxc_ev h hy h2
          have hints : ∃ k m k' n, u1 = .int k m ∧ u2 = .int k' n := by
            unfold cbin at hv
            split at hv
            · exact ⟨_, _, _, _, rfl, rfl⟩
            · cases hv
          obtain ⟨k, m, k', n, rfl, rfl⟩ := hints
          have h3 := cbin_sim (P := P) (r := r) h w hv t x y
          refine lift _ ⟨v, ?_, h3.2⟩
          rw [e1.int_inv, e2.int_inv]
          exact h3.1
        · cases hv
      have eqs : ∀ (k : EqK) (neg : Bool), eqK P t x y = some k → op = (if neg then .neq else .eql) → p = .eq k neg x' y' → ∃ v', (execOp act.eval ⟨dst, .binOp op t x y yt, type, pos, after, guard⟩).run P w = .ok (.value v') w ∧ VR r v v' := by
        rintro k neg hk rfl rfl
        simp only [pop] at hv
        split at hv
        · rename_i u1 u2 h1 h2
          split at hv
          · rename_i b hb
            cases hv
            exact lift _ ⟨_, eq_sim hk (rxc_ev h hx h1) (rxc_ev h hy h2) hb neg w, .bool _⟩
          · cases hv
        · cases hv
      split at hr
      · split at hr
        · cases hr; exact bins _ rfl rfl
        · split at hr
          · rename_i k hk; cases hr; exact eqs k false hk rfl rfl
          · cases hr
      · split at hr
        · cases hr; exact bins _ rfl rfl
        · split at hr
          · rename_i k hk; cases hr; exact eqs k true hk rfl rfl
          · cases hr
      · cases hr; exact bins _ rfl rfl
    · cases hr
  | unOp op t x =>
    simp only [rop] at hr
    split at hr
    · rename_i x' hx; cases hr
      simp only [pop] at hv
      split at hv
      · rename_i u hu
        have e1 := rxc_ev h hx hu
        have hsame : act.eval x = u := by
          unfold cun at hv
          split at hv
          · exact e1.int_inv
          · exact e1.int_inv
          · exact e1.bool_inv
          · cases hv
        have h3 := cun_sim (P := P) (r := r) h w hv
        exact lift _ ⟨v, by rw [hsame]; exact h3.1, h3.2⟩
      · cases hv
    · cases hr
  | convert src dst' x =>
    simp only [rop] at hr
    split at hr
    · rename_i k1 k x' hs hd hx; cases hr
      simp only [pop] at hv
      split at hv
      · rename_i k0 n hu
        cases hv
        have e1 := (rxc_ev h hx hu).int_inv
        exact lift _ ⟨_, by rw [e1]; simp [Go.convert, run_underlying hs, run_underlying hd, Conv.intToInt], .int _ _⟩
      · cases hv
    · cases hr
  | sliceToArrayPointer t x => simp only [rop] at hr; cases hr
  | makeInterface t x =>
    simp only [rop] at hr
    split at hr
    · cases hr
    · rename_i d x' hn ht hx; cases hr
      simp only [pop] at hv
      split at hv
      · rename_i u hu; cases hv
        refine lift _ ⟨.iface t (act.eval x), ?_, .iface _ _ _ (rxc_ev h hx hu)⟩
        cases d <;> first | (simp [Instr.makeInterface, run_underlying ht]; done) | exact absurd rfl (hn _)
      · cases hv
    · cases hr
  | makeFunc fn first cap =>
    simp only [rop] at hr
    split at hr
    · rename_i xs ys hx hy; cases hr
      simp only [pop] at hv
      split at hv
      · rename_i us vs hu hv'; cases hv
        have e1 := rxs_evs h _ _ _ hx hu
        have e2 := rxs_evs h _ _ _ hy hv'
        refine lift _ ⟨.func fn (first.map act.eval) (cap.map act.eval), rfl, .func _ _ _ _ _ (by simpa using e1.1) (by simpa using e2.1) (fun i v v' p q => e1.2 i v v' (by simpa using p) (by simpa using q))
          (fun i v v' p q => e2.2 i v v' (by simpa using p) (by simpa using q))⟩
      · cases hv
    · cases hr
  | makeMap t x => cases x <;> simp only [rop] at hr <;> cases hr
  | makeChan t x => simp only [rop] at hr; cases hr
  | makeSlice t x y => simp only [rop] at hr; (repeat' split at hr) <;> cases hr
  | slice t x lo hi mx =>
    simp only [rop] at hr
    split at hr
    · rename_i x' lo' hi' mx' hx hlo hhi hmx
      split at hr
      · rename_i n e ht
        split at hr
        · rename_i s hs; cases hr
          simp only [pop] at hv
          split at hv
          · rename_i u l1 h1 m1 g1 g2 g3 g4
            split at hv
            · rename_i n' b off sp heq; cases heq
              obtain ⟨m, hh, l, b1, b2, b3, _⟩ := cslice_inv hv
              exact lift _ (run_slice_arr ht hs (rxc_ev h hx g1) (BR.of (rxo_evo h hlo g2) b3) (BR.of (rxo_evo h hhi g3) b2) (BR.of (rxo_evo h hmx g4) b1) hv w)
            · rename_i heq; cases heq
            · rename_i heq; cases heq
            · cases hv
          · cases hv
        · cases hr
      · rename_i e ht
        split at hr
        · rename_i s hs; cases hr
          simp only [pop] at hv
          split at hv
          · rename_i u l1 h1 m1 g1 g2 g3 g4
            split at hv
            · rename_i heq; cases heq
            · rename_i b off sp len cap heq
              obtain ⟨m, hh, l, b1, b2, b3, _⟩ := cslice_inv hv
              exact lift _ (run_slice ht hs (rxc_ev h hx g1) (BR.of (rxo_evo h hlo g2) b3) (BR.of (rxo_evo h hhi g3) b2) (BR.of (rxo_evo h hmx g4) b1) hv w)
            · split at hv
              · rename_i m hh l b1 b2 b3
                split at hv
                · rename_i hok
                  cases hv
                  have hu := rxc_ev h hx g1
                  generalize hq : act.eval x = u' at hu
                  cases hu
                  exact lift _ ⟨_, by rw [hq]; exact run_slice_nil ht hs (BR.of (rxo_evo h hlo g2) b3) (BR.of (rxo_evo h hhi g3) b2) (BR.of (rxo_evo h hmx g4) b1) b1 b2 b3 hok w, .nils⟩
                · cases hv
              · cases hv
            · cases hv
          · cases hv
        · cases hr
      · cases hr
    · cases hr
  | fieldAddr t x i =>
    simp only [rop] at hr
    split at hr
    · rename_i fs x' ht hx
      split at hr
      · rename_i f hf
        split at hr
        · rename_i s hs
          split at hr
          · rename_i h0; cases hr; exact lift _ (sim_fad h w ht hf hs h0 hx hv)
          · cases hr
        · cases hr
      · cases hr
    · cases hr
  | field t x i =>
    simp only [rop] at hr
    split at hr
    · rename_i fs x' ht hx
      split at hr
      · rename_i f hf
        split at hr
        · rename_i k hk; cases hr; exact lift _ (sim_fld h w ht hf hk hx hv)
        · cases hr
      · cases hr
    · cases hr
  | indexAddr t x i =>
    simp only [rop] at hr
    split at hr
    · rename_i n e x' i' ht hx hi
      split at hr
      · rename_i s hs; cases hr; exact lift _ (sim_iad_arr h w ht hs hx hi hv)
      · cases hr
    · rename_i e x' i' ht hx hi
      split at hr
      · rename_i s hs; cases hr; exact lift _ (sim_iad_slc h w ht hs hx hi hv)
      · cases hr
    · cases hr
  | index t x i =>
    simp only [rop] at hr
    split at hr
    · rename_i x' i' ht hx hi; cases hr; exact lift _ (sim_sidx h w ht hx hi hv)
    · rename_i n e x' i' ht hx hi
      split at hr
      · rename_i s k hs hk; cases hr; exact lift _ (sim_idx h w ht hs hk hx hi hv)
      · cases hr
    · cases hr
  | lookup t m k ok => simp only [rop] at hr; (repeat' split at hr) <;> cases hr
  | mapUpdate t m k x => simp only [rop] at hr; (repeat' split at hr) <;> cases hr
  | mapEntry t m k => simp only [rop] at hr; cases hr
  | entryStore t m s x => simp only [rop] at hr; cases hr
  | range t x => simp only [rop] at hr; cases hr
  | next i s => simp only [rop] at hr; cases hr
  | entry i => simp only [rop] at hr; cases hr
  | typeAssert x xt t ok =>
    simp only [rop] at hr
    split at hr
    · rename_i x' want z hx ht hz; cases hr; exact lift _ (sim_tass h w ht hz hx hv)
    · cases hr
  | extract x i =>
    simp only [rop] at hr
    split at hr
    · rename_i x' hx; cases hr; exact lift _ (sim_ext h w hx hv)
    · cases hr
  | call c => exact pcall_sim h w c _ _ _ _ _ p hr v hv
  | go c => simp only [rop] at hr; cases hr
  | defer c => simp only [rop] at hr; cases hr
  | panic x => simp only [rop] at hr; cases hr; simp [pop] at hv
  | send x y => simp only [rop] at hr; cases hr
  | recv t x c => simp only [rop] at hr; cases hr
  | select c b => simp only [rop] at hr; cases hr
end

end Go.Can
