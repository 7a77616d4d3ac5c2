/-
  The canonical semantics: from a canonical run of a law to what its statement asks.
-/
import Derived.Test.YtcilkncmhmckmaaGreatCanR
import Derived.ProofKit
import Derived.RowKit3
import Derived.ReadAgain
import Derived.ChangeSame
import Derived.ChangeReads
import Derived.OpenShut
import Derived.ChangeCalls
namespace Go.Can
open Go Go.RowKit Go.ChangeShapes Go.WideShapes Go.ChangeAt
set_option linter.all false

theorem Held.kept {w w' : World} (h : Held w w') : w.keptBut w' (fun _ => False) := by
  refine ⟨h.stays.1, h.stays.2.1, fun i hi => ?_⟩
  rw [h.heap i hi]
  cases w.heap[i]? with
  | none => rfl
  | some o => cases o <;> first | rfl | exact ⟨rfl, rfl, rfl, fun _ _ => rfl⟩ | exact .inr ⟨rfl, rfl⟩

/-- What a statement asks behind a call: the results read, the arguments read as before, and of what is frozen the old blocks alone are asked. -/
theorem post_same_old {H : Type} {enc : TypeId × Value → H} {P : Program} {f : Func} {s : ChangeSpec} {apart fresh handsOn again : Bool} {W W' : World} {args : Array Value} {v : Value} {ds gs : List (DataW H)} {before pa pv : List MemPlace}
    (hW : DataW.Whole enc P f.params.toList s.vars apart W args.toList ds gs before)
    (hres : ∀ (b : Nat) (sp : Nat → Bool) (hd : Bool), DataW.TrodAll enc P W' b sp hd f.resultTypes.toList (v.resultList f.resultTypes.size) (s.fn H (ds ++ gs)).results [])
    (hargs : ∀ sp : Nat → Bool, (∀ p ∈ before, sp p.block = true) → DataW.TrodAll enc P W' 0 sp true f.params.toList args.toList (s.fn H (ds ++ gs)).args pa)
    (hvars : ∀ sp : Nat → Bool, (∀ p ∈ before, sp p.block = true) → DataW.TrodVars enc P W' sp s.vars (s.fn H (ds ++ gs)).vars pv)
    (hps : before = pa ++ pv) (hk : W.keptBut W' (· ∈ before)) (hfz : ∀ a, a.block < W.heap.size → W'.frozen? a = W.frozen? a)
    (hok : ∀ (j : Nat) (t : TypeId) (r : Value), f.resultTypes[j]? = some t → (v.resultList f.resultTypes.size)[j]? = some r → Value.okWide P W' .any 0 t r) :
    s.post enc P f apart fresh handsOn again W args v W' := by
  have hold : ∀ p ∈ before, (fun b => decide (b < W.heap.size)) p.block = true := fun p hp => by simpa using hW.lt p hp
  have hlt := hW.lt
  refine ⟨ds, gs, before, [], pa, pv, hW, hres _ _ _, hargs _ hold, hvars _ hold, World.keptBut_mono (fun p hp => ⟨hp, ?_⟩) hk, fun _ => ?_⟩
  · rw [hps, List.mem_append] at hp
    exact Or.inr hp
  · obtain ⟨_, _, _, _, _, hz, hn⟩ := hW
    refine ⟨hok, _, _, ([] ++ pa) ++ pv, ⟨[] ++ pa, pv, trodAll_append (hargs _ (fun _ _ => rfl)) (hres _ _ _), hvars _ (fun _ _ => rfl), rfl, ?_, ?_⟩, ?_⟩
    · intro b off hp
      have hm : MemPlace.cell b off ∈ before := by rw [hps]; simpa using hp
      rw [hfz _ (hlt _ hm)]
      exact hz b off hm
    · intro ha
      have := hn ha
      rw [hps] at this
      simpa using this
    · intro p hp _
      rw [hps]
      simpa using hp

/-- A canonical run from rows that are only read: the model's call answers so, and turns nothing that was there. -/
theorem calls_held {P : Program} (hm : P.follows .mixedOrders = true) {orc : Orc} (horc : OrcOk P orc) {n : Nat} {f : FuncId} {cargs : List Value} {W0 W' : CW} {b : Bool} (hrun : rcall P orc n f cargs W0 = some (.bool b, W')) {r0 : Rn} {w : World} {args : Array Value}
    (hs : Sim r0 W0 w) (hv : VRL r0 cargs args.toList) (hro : ∀ b p, r0.f b = some p → RO W0 b) : Calls P f args w fun e w' => e = .returned (.bool b) ∧ Held w w' := by
  refine Calls.mono ((rcall_sim P hm horc n _ _ _ _ _ hrun).2 r0 w args hs hv) fun e w' he => ?_
  obtain ⟨v', r', nl, rfl, h1, h2, h3, h4⟩ := he
  cases h1
  refine ⟨rfl, h4.rest, h4.size, fun blk hb => h4.fr blk hb fun b p hbN hp _ ht => ?_⟩
  obtain ⟨nl', k1, k2, k3⟩ := (rcall_both P orc n _ _ _ _ _ hrun).keeps
  have e : nl' = nl := List.append_cancel_right (k1.symm.trans h3)
  subst e
  obtain ⟨cs, hc⟩ := hro b p hp
  exact ((k3 b (by rw [← hs.n]; exact r0.lt b hbN)).2.2 cs hc).1 ht

theorem sim_empty (w : World) : Sim ⟨0, fun _ => False, fun _ => none, fun _ h => h.elim⟩ CW.empty w :=
  ⟨rfl, fun b p h => (by cases h), fun b ob h => h.elim, fun b b' p p' h => (by cases h), fun b _ => rfl, fun b h => h.elim⟩

/-- A function without arguments, run on an empty heap: an oracle's word. -/
theorem orc_word {P : Program} (hm : P.follows .mixedOrders = true) {orc : Orc} (horc : OrcOk P orc) {n : Nat} {f : FuncId} {b : Bool} (hrun : (match rcall P orc n f [] .empty with | some (.bool c, _) => c == b | _ => false) = true) :
    (∃ R, rfn P f = some R) ∧ ∀ w, Calls P f #[] w fun e w' => e = .returned (.bool b) ∧ Held w w' := by
  cases h : rcall P orc n f [] .empty with
  | none => rw [h] at hrun; cases hrun
  | some x =>
    obtain ⟨v, W'⟩ := x
    rw [h] at hrun
    cases v with
    | bool c =>
      have e : c = b := by simpa using hrun
      subst e
      exact ⟨(rcall_sim P hm horc n _ _ _ _ _ h).1, fun w => calls_held hm horc h (sim_empty w) (VRL.nil _) (fun b p hp => by cases hp)⟩
    | _ => cases hrun

/-- What was read of arguments reads so behind a call that turned nothing. -/
theorem trodAll_held {H : Type} {enc : TypeId × Value → H} {P : Program} {T : TypeId → Prop} (K : Kids P T) (hz : ∀ t e, T t → P.underlying t = some (.slice e) → 0 < P.cellsOf e) {w w' : World} (hg : Held w w') {sp : Nat → Bool} :
    ∀ {ts : List TypeId} {vs : List Value} {ds : List (DataW H)} {ps : List MemPlace}, (∀ t ∈ ts, T t) → DataW.TrodAll enc P w 0 (fun _ => true) true ts vs ds ps → (∀ p ∈ ps, sp p.block = true) → DataW.TrodAll enc P w' 0 sp true ts vs ds ps
  | [], [], [], _, _, h, _ => h
  | t :: ts, v :: vs, d :: ds, ps, hT, ⟨p, q, ⟨n, hn⟩, h2, e⟩, hs => by
    refine ⟨p, q, ⟨n, ?_⟩, trodAll_held K hz hg (fun t ht => hT t (List.mem_cons_of_mem _ ht)) h2 (fun x hx => hs x (by rw [e]; exact List.mem_append_right _ hx)), e⟩
    refine DataW.trod_respare K hz n _ _ _ (hT t (by simp)) (DataW.trod_carry n _ _ _ hn fun x hx => ?_) (fun x hx => hs x (by rw [e]; exact List.mem_append_left _ hx))
    have h4 := hg.heap x.block (DataW.trod_lt n _ _ _ hn x hx)
    cases x with
    | cell b off =>
      simp only [MemPlace.block] at h4
      show w'.cell? ⟨b, off, none⟩ = w.cell? ⟨b, off, none⟩
      simp only [World.cell?, h4]
    | map b => exact h4
  | [], _ :: _, _, _, _, h, _ => h.elim
  | [], [], _ :: _, _, _, h, _ => h.elim
  | _ :: _, [], _, _, _, h, _ => h.elim
  | _ :: _, _ :: _, [], _, _, h, _ => h.elim

/-- What a law's statement asks behind its call. -/
theorem law_post {H : Type} {enc : TypeId × Value → H} {P : Program} {T : TypeId → Prop} (K : Kids P T) (hz : ∀ t e, T t → P.underlying t = some (.slice e) → 0 < P.cellsOf e) {fn : Func} {s : ChangeSpec} {w : World} {args : Array Value} {ds gs : List (DataW H)} {before : List MemPlace}
    (hT : ∀ t ∈ fn.params.toList, T t) (hvars : s.vars = []) (hW : DataW.Whole enc P fn.params.toList s.vars false w args.toList ds gs before) {tb : TypeId} (hres : fn.resultTypes = #[tb]) (htb : P.underlying tb = some .bool)
    (hfn : ∀ ds : List (DataW H), ds.length = fn.params.size → s.fn H ds = { results := [.lit (.bool true)], args := ds }) {f : FuncId}
    (hc : Calls P f args w fun e w' => e = .returned (.bool true) ∧ Held w w') : Calls P f args w fun e w' => ∃ v, e = .returned v ∧ s.post enc P fn false true false false w args v w' := by
  refine hc.mono fun e w' he => ?_
  obtain ⟨rfl, hg⟩ := he
  have hW' := hW
  obtain ⟨p, q, hA, hV, rfl, hfz, hnd⟩ := hW
  have hV0 : gs = [] ∧ q = [] := by
    rw [hvars] at hV
    exact trodVars_none hV
  obtain ⟨rfl, rfl⟩ := hV0
  have hlen := (Go.trodAll_length hA).2
  have e0 : s.fn H (ds ++ []) = { results := [.lit (.bool true)], args := ds } := by rw [List.append_nil]; exact hfn ds (by simpa using hlen)
  refine ⟨_, rfl, post_same_old (pa := p) (pv := []) hW' (fun b sp hd => ?_) (fun sp hsp => ?_) (fun sp _ => ?_) rfl (World.keptBut_mono (fun p hp => hp.elim) hg.kept) hg.stays.2.2 ?_⟩
  · rw [e0, hres]
    exact trodAll_cons_mk (shut_bool htb true) trodAll_mk0
  · rw [e0]
    exact trodAll_held K hz hg hT hA fun x hx => hsp x (by simpa using hx)
  · rw [e0, hvars]; rfl
  · intro j t r hj hr
    rw [hres] at hj hr
    cases j with
    | zero =>
      simp at hj
      subst hj
      simp [Value.resultList] at hr
      subst hr
      exact okWide_bool_mk htb true
    | succ j => simp at hj

end Go.Can
