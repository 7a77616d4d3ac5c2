/-
  The canonical semantics: pure operations, all of them.
-/
import Derived.Test.YtcilkncmhmckmaaGreatCanC
namespace Go.Can
open Go
set_option linter.all false

/-- A bound of a slice expression, on both sides. -/
def BR (v v' : Option Value) : Prop := (v = none ∧ v' = none) ∨ ∃ k n, v = some (.int k n) ∧ v' = some (.int k n)

theorem BR.of {r : Rn} {v v' : Option Value} (h : (v = none ∧ v' = none) ∨ ∃ u, v = some u ∧ ∃ u', v' = some u' ∧ VR r u u') {d m k : Nat} (hb : bound v d m = some k) : BR v v' := by
  rcases h with h | ⟨u, rfl, u', rfl, hu⟩
  · exact .inl h
  · cases u <;> simp [bound] at hb
    rw [hu.int_inv]
    exact .inr ⟨_, _, rfl, rfl⟩

theorem run_bound {P : Program} {k : IntKind} {i : Int} {y : Nat} (h0 : 0 ≤ i) (h1 : i ≤ y) (code : BoundsCode) (w : World) : (Instr.sliceBound (.int k i) y code).run P w = .ok i.toNat w := by
  simp [Instr.sliceBound, asIntOf, h0, h1]

theorem run_sliceBounds {P : Program} (w : World) (isSlice : Bool) (len cap cap' : Nat) (hcap : cap ≤ cap') {lo hi mx lo' hi' mx' : Option Value} (hlo : BR lo lo') (hhi : BR hi hi') (hmx : BR mx mx') {m hh l : Nat}
    (hm : bound mx cap cap = some m) (hhb : bound hi len m = some hh) (hl : bound lo 0 hh = some l) (hok : mx.isSome = true → hi.isSome = true) :
    ∃ m', (Instr.sliceBounds isSlice len cap' lo' hi' mx').run P w = .ok (l, hh, m') w ∧ m ≤ m' ∧ (mx.isSome = true → m' = m) ∧ (mx = none → m = cap ∧ m' = cap') ∧ m' ≤ cap' := by
  have key : ∀ (lo lo' : Option Value) (hlo : BR lo lo') (hl : bound lo 0 hh = some l), (lo' = none ∧ l = 0) ∨ ∃ k n, lo' = some (.int k n) ∧ 0 ≤ n ∧ n ≤ (hh : Int) ∧ n.toNat = l := by
    intro lo lo' hlo hl
    rcases hlo with ⟨rfl, rfl⟩ | ⟨k, n, rfl, rfl⟩
    · simp [bound] at hl; exact .inl ⟨rfl, hl.symm⟩
    · simp only [bound] at hl; split at hl
      · rename_i hc; cases hl; exact .inr ⟨_, _, rfl, hc.1, hc.2, rfl⟩
      · cases hl
  rcases hmx with ⟨rfl, rfl⟩ | ⟨k, n, rfl, rfl⟩
  · simp [bound] at hm; subst hm
    refine ⟨cap', ?_, hcap, by simp, fun _ => ⟨rfl, rfl⟩, Nat.le_refl _⟩
    rcases hhi with ⟨rfl, rfl⟩ | ⟨k, n, rfl, rfl⟩
    · simp [bound] at hhb; subst hhb
      rcases key lo lo' hlo hl with ⟨rfl, rfl⟩ | ⟨k0, n0, rfl, c1, c2, rfl⟩
      · simp [Instr.sliceBounds]
      · simp [Instr.sliceBounds, run_bound c1 c2]
    · simp only [bound] at hhb; split at hhb
      · rename_i hc; cases hhb
        have r1 := fun code => run_bound (P := P) (k := k) hc.1 (Int.le_trans hc.2 (by exact_mod_cast hcap)) code w
        rcases key lo lo' hlo hl with ⟨rfl, rfl⟩ | ⟨k0, n0, rfl, c1, c2, rfl⟩
        · simp [Instr.sliceBounds, r1]
        · simp [Instr.sliceBounds, r1, fun code => run_bound (P := P) (k := k0) c1 c2 code w]
      · cases hhb
  · simp only [bound] at hm; split at hm
    · rename_i hc; cases hm
      refine ⟨n.toNat, ?_, Nat.le_refl _, by simp, by simp, by omega⟩
      have r0 := fun code => run_bound (P := P) (k := k) hc.1 (Int.le_trans hc.2 (by exact_mod_cast hcap)) code w
      rcases hhi with ⟨rfl, rfl⟩ | ⟨k2, n2, rfl, rfl⟩
      · simp at hok
      · simp only [bound] at hhb; split at hhb
        · rename_i hc2; cases hhb
          have r1 := fun code => run_bound (P := P) (k := k2) hc2.1 hc2.2 code w
          rcases key lo lo' hlo hl with ⟨rfl, rfl⟩ | ⟨k0, n0, rfl, c1, c2, rfl⟩
          · simp [Instr.sliceBounds, r0, r1]
          · simp [Instr.sliceBounds, r0, r1, fun code => run_bound (P := P) (k := k0) c1 c2 code w]
        · cases hhb
    · cases hm

theorem cslice_inv {size b off : Nat} {sp : Option Nat} {len cap : Nat} {lo hi mx : Option Value} {v : Value} (h : cslice size b off sp len cap lo hi mx = some v) :
    ∃ m hh l, bound mx cap cap = some m ∧ bound hi len m = some hh ∧ bound lo 0 hh = some l ∧ hh ≤ m ∧ l ≤ hh ∧ (mx.isSome = true → hi.isSome = true) ∧
      v = .slice (some ⟨b, if m = l then off else off + l * size, if mx.isSome || sp == some 1 then some 1 else if sp == some (2 + size) then sp else none⟩) (hh - l) (m - l) := by
  unfold cslice at h
  split at h
  · cases h
  · rename_i m hm
    split at h
    · cases h
    · rename_i hh hhb
      split at h
      · cases h
      · rename_i l hl
        split at h
        · rename_i hc; cases h; exact ⟨m, hh, l, hm, hhb, hl, hc.1, hc.2.1, hc.2.2, rfl⟩
        · cases h

theorem bound_le {v : Option Value} {d m k : Nat} (h : bound v d m = some k) (hd : d ≤ m) : k ≤ m := by
  unfold bound at h
  split at h
  · cases h; exact hd
  · split at h
    · rename_i hc; cases h; omega
    · cases h
  · cases h

theorem add_block {a : Addr} {blk o : Nat} (h1 : a.block = blk) (h2 : a.spot = none) (h3 : a.off = o) (n : Nat) : a.add n = ⟨blk, o + n, none⟩ := by
  obtain ⟨ab, ao, as⟩ := a
  simp at h1 h2 h3
  subst h1; subst h2; subst h3
  unfold Addr.add
  split
  · rename_i e; subst e; rfl
  · rfl

/-- What a slice expression makes of a base that lies where it should. -/
theorem slice_VR {r : Rn} {b off : Nat} {sp : Option Nat} {cap cap' m m' hh l size : Nat} {a : Addr} {mx : Option Value} (hb : r.has b)
    (hp : ∀ p, r.f b = some p → a.block = p.blk ∧ a.spot = none ∧ (0 < cap → a.off = p.off + off) ∧ (∀ sz, sp = some (2 + sz) → a.off + cap' * sz ≤ p.off + p.tot)) (he : sp = some 1 → cap = cap')
    (hm : m ≤ m') (hmc : m ≤ cap) (hmc' : m' ≤ cap') (hx : mx.isSome = true → m' = m) (hn : mx = none → m = cap ∧ m' = cap') (h1 : hh ≤ m) (h2 : l ≤ hh) :
    VR r (.slice (some ⟨b, if m = l then off else off + l * size, if mx.isSome || sp == some 1 then some 1 else if sp == some (2 + size) then sp else none⟩) (hh - l) (m - l))
      (.slice (some (if m' = l then a else a.add (l * size))) (hh - l) (m' - l)) := by
  refine .slc _ _ _ _ _ _ _ hb (by omega) (by omega) ?_ ?_
  · cases mx with
    | some x => intro _; rw [hx rfl]
    | none =>
      intro hsp
      have h3 := hn rfl
      have h4 : sp = some 1 := by
        simp at hsp
        by_cases e : sp = some 1
        · exact e
        · exact (hsp e).2
      have := he h4
      omega
  · intro p hf
    obtain ⟨h3, h4, h5, h6⟩ := hp p hf
    have hadd := fun n => add_block (a := a) h3 h4 rfl n
    have hle : l ≤ m' := by omega
    by_cases e : m' = l
    · rw [if_pos e]
      refine ⟨h3, h4, fun hpos => by omega, fun sz hsz => ?_⟩
      have : (m' - l) = 0 := by omega
      rw [this]
      have h7 : sp = some (2 + size) ∧ sz = size := by
        cases mx with
        | some x => simp at hsz; omega
        | none =>
          simp at hsz
          split at hsz
          · simp at hsz; omega
          · split at hsz
            · rename_i e2; rw [e2] at hsz; simp at hsz; exact ⟨e2, by omega⟩
            · cases hsz
      have := h6 size h7.1
      have : 0 ≤ cap' * size := Nat.zero_le _
      omega
    · rw [if_neg e, hadd]
      refine ⟨rfl, rfl, fun hpos => ?_, fun sz hsz => ?_⟩
      · rw [if_neg (by omega)]
        simp only
        rw [h5 (by omega)]
        omega
      · have h7 : sp = some (2 + size) ∧ sz = size := by
          cases mx with
          | some x => simp at hsz; omega
          | none =>
            simp at hsz
            split at hsz
            · simp at hsz; omega
            · split at hsz
              · rename_i e2; rw [e2] at hsz; simp at hsz; exact ⟨e2, by omega⟩
              · cases hsz
        have h8 := h6 size h7.1
        rw [h7.2]
        have h9 : l * size + (m' - l) * size = m' * size := by rw [← Nat.add_mul]; congr 1; omega
        have h10 : m' * size ≤ cap' * size := Nat.mul_le_mul_right _ hmc'
        simp only
        omega

theorem run_slice {P : Program} {r : Rn} {t e : TypeId} {size : Nat} (ht : P.underlying t = some (.slice e)) (hs : sizeC P e = some size) {b off : Nat} {sp : Option Nat} {len cap : Nat} {u' : Value}
    (hu : VR r (.slice (some ⟨b, off, sp⟩) len cap) u') {lo hi mx lo' hi' mx' : Option Value} (hlo : BR lo lo') (hhi : BR hi hi') (hmx : BR mx mx') {v : Value} (hv : cslice size b off sp len cap lo hi mx = some v)
    (w : World) : ∃ v', (Instr.sliceAt t u' lo' hi' mx').run P w = .ok v' w ∧ VR r v v' := by
  obtain ⟨m, hh, l, h1, h2, h3, h4, h5, h6, rfl⟩ := cslice_inv hv
  cases hu with
  | slc _ _ _ _ _ a c' hb hn hc he hp =>
    obtain ⟨m', g1, g2, g3, g4, g5⟩ := run_sliceBounds (P := P) w true len cap c' hc hlo hhi hmx h1 h2 h3 h6
    refine ⟨_, ?_, slice_VR (size := size) hb hp he g2 (bound_le h1 (Nat.le_refl _)) g5 g3 g4 h4 h5⟩
    by_cases e : m' = l <;> simp [Instr.sliceAt, Instr.slice, run_underlying ht, g1, run_sizeOf hs, e]

theorem run_slice_arr {P : Program} {r : Rn} {t e : TypeId} {n size : Nat} (ht : P.underlying t = some (.array n e)) (hs : sizeC P e = some size) {b off : Nat} {sp : Option Nat} {u' : Value}
    (hu : VR r (.pointer (some ⟨b, off, sp⟩)) u') {lo hi mx lo' hi' mx' : Option Value} (hlo : BR lo lo') (hhi : BR hi hi') (hmx : BR mx mx') {v : Value} (hv : cslice size b off (some 1) n n lo hi mx = some v)
    (w : World) : ∃ v', (Instr.sliceAt t u' lo' hi' mx').run P w = .ok v' w ∧ VR r v v' := by
  obtain ⟨m, hh, l, h1, h2, h3, h4, h5, h6, rfl⟩ := cslice_inv hv
  cases hu with
  | ptr _ _ _ a hb hp =>
    obtain ⟨m', g1, g2, g3, g4, g5⟩ := run_sliceBounds (P := P) w false n n n (Nat.le_refl _) hlo hhi hmx h1 h2 h3 h6
    refine ⟨_, ?_, slice_VR (a := a) (size := size) (sp := some 1) (cap := n) (cap' := n) hb (fun p hf => by rw [hp p hf]; exact ⟨rfl, rfl, fun _ => rfl, fun sz hsz => by simp at hsz; omega⟩) (fun _ => rfl) g2 (bound_le h1 (Nat.le_refl _)) g5 g3 g4 h4 h5⟩
    by_cases e : m' = l <;> simp [Instr.sliceAt, Instr.sureAddr, run_underlying ht, g1, run_sizeOf hs, e]

theorem run_slice_nil {P : Program} {t e : TypeId} {size : Nat} (ht : P.underlying t = some (.slice e)) (hs : sizeC P e = some size) {lo hi mx lo' hi' mx' : Option Value} (hlo : BR lo lo') (hhi : BR hi hi') (hmx : BR mx mx')
    {m hh l : Nat} (h1 : bound mx 0 0 = some m) (h2 : bound hi 0 0 = some hh) (h3 : bound lo 0 0 = some l) (hok : mx.isSome = true → hi.isSome = true)
    (w : World) : (Instr.sliceAt t (.slice none 0 0) lo' hi' mx').run P w = .ok (.slice none 0 0) w := by
  have e1 : m = 0 := by have := bound_le h1 (Nat.le_refl _); omega
  have e2 : hh = 0 := by have := bound_le h2 (Nat.le_refl _); omega
  have e3 : l = 0 := by have := bound_le h3 (Nat.le_refl _); omega
  subst e1; subst e2; subst e3
  obtain ⟨m', g1, g2, g3, g4, g5⟩ := run_sliceBounds (P := P) w true 0 0 0 (Nat.le_refl _) hlo hhi hmx h1 h2 h3 hok
  have : m' = 0 := by
    cases mx with
    | none => exact (g4 rfl).2
    | some x => exact g3 rfl
  subst this
  simp [Instr.sliceAt, Instr.slice, run_underlying ht, g1, run_sizeOf hs]

theorem least_none {l : List String} (h : Instr.least l = none) : l = [] := by
  cases l with
  | nil => rfl
  | cons x l => simp [Instr.least] at h

theorem missing_spec (want : Array (String × TypeId)) (got : Array Method) :
    (oneOf want got = true → Instr.missingMethod want got = none) ∧ (oneOf want got = false → ∃ m, Instr.missingMethod want got = some m) := by
  have e : oneOf want got = true ↔ want.toList.filter (fun (x : String × TypeId) => !got.any fun m => m.name == x.1 && m.sig == x.2) = [] := by
    rw [List.filter_eq_nil_iff]
    unfold oneOf
    rw [Array.all_eq_true_iff_forall_mem]
    constructor
    · intro h x hx
      have := h x (Array.mem_toList_iff.1 hx)
      simp [this]
    · intro h x hx
      have := h x (Array.mem_toList_iff.2 hx)
      simpa using this
  constructor
  · intro h
    have h1 := e.1 h
    unfold Instr.missingMethod
    simp only [h1]
    rfl
  · intro h
    have h1 : ¬ want.toList.filter (fun (x : String × TypeId) => !got.any fun m => m.name == x.1 && m.sig == x.2) = [] := fun hn => by rw [e.2 hn] at h; cases h
    cases hm : Instr.missingMethod want got with
    | some m => exact ⟨m, rfl⟩
    | none =>
      exfalso
      unfold Instr.missingMethod at hm
      revert hm
      generalize hL : want.toList.filter (fun (x : String × TypeId) => !got.any fun m => m.name == x.1 && m.sig == x.2) = L at h1
      intro hm
      simp only [hL] at hm
      cases L with
      | nil => exact h1 rfl
      | cons y L =>
        simp only [List.map_cons, List.partition_eq_filter_filter] at hm
        cases hl : Instr.least (List.filter (not ∘ fun x : String => x.contains '.') (y.1 :: L.map (·.1))) with
        | some m => rw [hl] at hm; simp at hm
        | none =>
          rw [hl] at hm
          have n1 := least_none hl
          cases hl2 : Instr.least ((List.filter (fun x : String => x.contains '.') (y.1 :: L.map (·.1))).map fun id => (id.splitOn ".").getLastD id) with
          | some m => rw [hl2] at hm; cases hm
          | none =>
            have n2 := least_none hl2
            have n3 := List.map_eq_nil_iff.1 n2
            rw [List.filter_eq_nil_iff] at n1 n3
            have a1 := n1 y.1 (by simp)
            have a2 := n3 y.1 (by simp)
            simp at a1 a2
            exact a2 a1

section
variable {P : Program} {r : Rn} {N : Nat} {a : CAct} {act : Act} (h : AR r N a act) (w : World)
include h

theorem sim_fad {t : TypeId} {fs : Array Field} {f : Field} {s : Nat} {x : Operand} {x' : RX} {i : Nat} (ht : P.underlying t = some (.struct fs)) (hf : fs[i]? = some f) (hs : sizeC P f.type = some s) (h0 : 0 < s) (hx : rxc x = some x')
    {v : Value} (hv : pop P a (.fad f.offset x') = some v) : ∃ v', (Instr.fieldAt t (act.eval x) i).run P w = .ok v' w ∧ VR r v v' := by
  simp only [pop] at hv
  split at hv
  · rename_i b o sp hp; cases hv
    have hu := rxc_ev h hx hp
    generalize act.eval x = u at *
    cases hu with
    | ptr _ _ _ p hb hh =>
      have hne : ¬ s = 0 := by omega
      refine ⟨.pointer (some (p.add f.offset)), by simp [Instr.fieldAt, run_underlying ht, hf, Instr.sureAddr, fieldPlace, run_sizeOf hs, hne], .ptr _ _ _ _ hb fun q hq => ?_⟩
      have := hh q hq
      rw [add_block (a := p) (blk := q.blk) (o := q.off + o) (by rw [this]) (by rw [this]) (by rw [this])]
      simp; omega
  · cases hv

theorem sim_fld {t : TypeId} {fs : Array Field} {f : Field} {k : Option Nat} {x : Operand} {x' : RX} {i : Nat} (ht : P.underlying t = some (.struct fs)) (hf : fs[i]? = some f) (hk : aggK P f.type = some k) (hx : rxc x = some x')
    {v : Value} (hv : pop P a (.fld k f.offset x') = some v) : ∃ v', (Instr.field t (act.eval x) i).run P w = .ok v' w ∧ VR r v v' := by
  simp only [pop] at hv
  split at hv
  · rename_i cs hp
    have hu := rxc_ev h hx hp
    generalize act.eval x = u at *
    cases hu with
    | agg _ cs' h1 h2 =>
      obtain ⟨v', g1, g2⟩ := run_part hk (cs' := cs') ⟨by simpa using h1, fun i x x' p q => h2 i x x' (by simpa using p) (by simpa using q)⟩ hv w
      exact ⟨v', by simp [Instr.field, run_underlying ht, hf, asAgg, g1], g2⟩
  · cases hv

theorem sim_iad_arr {t e : TypeId} {n s : Nat} {x i : Operand} {x' i' : RX} (ht : P.underlying t = some (.array n e)) (hs : sizeC P e = some s) (hx : rxc x = some x') (hi : rxc i = some i')
    {v : Value} (hv : pop P a (.iad (some n) s x' i') = some v) : ∃ v', (Instr.indexAt t (act.eval x) (act.eval i)).run P w = .ok v' w ∧ VR r v v' := by
  simp only [pop] at hv
  split at hv
  · rename_i u k j hp hq
    split at hv
    · rename_i n' b off sp heq
      cases heq
      split at hv
      · rename_i hc
        cases hv
        have hu := rxc_ev h hx hp
        have hj := (rxc_ev h hi hq).int_inv
        generalize act.eval x = u at *
        cases hu with
        | ptr _ _ _ p hb hh =>
          refine ⟨.pointer (some (p.add (j.toNat * s))), by simp [Instr.indexAt, hj, asIntOf, run_underlying ht, Instr.sureAddr, run_sizeOf hs, hc.1, hc.2], .ptr _ _ _ _ hb fun q hq => ?_⟩
          have := hh q hq
          rw [add_block (a := p) (blk := q.blk) (o := q.off + off) (by rw [this]) (by rw [this]) (by rw [this])]
          simp; omega
      · cases hv
    · rename_i heq; cases heq
    · cases hv
  · cases hv

theorem sim_iad_slc {t e : TypeId} {s : Nat} {x i : Operand} {x' i' : RX} (ht : P.underlying t = some (.slice e)) (hs : sizeC P e = some s) (hx : rxc x = some x') (hi : rxc i = some i')
    {v : Value} (hv : pop P a (.iad none s x' i') = some v) : ∃ v', (Instr.indexAt t (act.eval x) (act.eval i)).run P w = .ok v' w ∧ VR r v v' := by
  simp only [pop] at hv
  split at hv
  · rename_i u k j hp hq
    split at hv
    · rename_i heq; cases heq
    · rename_i b off sp n cap heq
      split at hv
      · rename_i hc
        cases hv
        have hu := rxc_ev h hx hp
        have hj := (rxc_ev h hi hq).int_inv
        generalize act.eval x = u at *
        cases hu with
        | slc _ _ _ _ _ p c' hb hn hcc he hh =>
          refine ⟨.pointer (some (p.add (j.toNat * s))), by simp [Instr.indexAt, hj, asIntOf, run_underlying ht, run_sizeOf hs, hc.1, hc.2], .ptr _ _ _ _ hb fun q hq => ?_⟩
          obtain ⟨g1, g2, g3, _⟩ := hh q hq
          rw [add_block (a := p) (blk := q.blk) (o := q.off + off) g1 g2 (g3 (by omega))]
          simp; omega
      · cases hv
    · cases hv
  · cases hv

theorem sim_idx {t e : TypeId} {n s : Nat} {k : Option Nat} {x i : Operand} {x' i' : RX} (ht : P.underlying t = some (.array n e)) (hs : sizeC P e = some s) (hk : aggK P e = some k) (hx : rxc x = some x') (hi : rxc i = some i')
    {v : Value} (hv : pop P a (.idx n k s x' i') = some v) : ∃ v', (Instr.index t (act.eval x) (act.eval i)).run P w = .ok v' w ∧ VR r v v' := by
  simp only [pop] at hv
  split at hv
  · rename_i cs kk j hp hq
    split at hv
    · rename_i hc
      have hu := rxc_ev h hx hp
      have hj := (rxc_ev h hi hq).int_inv
      generalize act.eval x = u at *
      cases hu with
      | agg _ cs' h1 h2 =>
        obtain ⟨v', g1, g2⟩ := run_part hk (cs' := cs') ⟨by simpa using h1, fun i x x' p q => h2 i x x' (by simpa using p) (by simpa using q)⟩ hv w
        exact ⟨v', by simp [Instr.index, hj, asIntOf, run_underlying ht, run_sizeOf hs, hc.1, hc.2, g1], g2⟩
    · cases hv
  · cases hv

theorem sim_sidx {t : TypeId} {x i : Operand} {x' i' : RX} (ht : P.underlying t = some .string) (hx : rxc x = some x') (hi : rxc i = some i')
    {v : Value} (hv : pop P a (.sidx x' i') = some v) : ∃ v', (Instr.index t (act.eval x) (act.eval i)).run P w = .ok v' w ∧ VR r v v' := by
  simp only [pop] at hv
  split at hv
  · rename_i s kk j hp hq
    split at hv
    · rename_i hc
      split at hv
      · rename_i b hb
        cases hv
        have hu := (rxc_ev h hx hp).str_inv
        have hj := (rxc_ev h hi hq).int_inv
        have hb' : s[j.toNat]? = some b := by
          have hlt : j.toNat < s.size := by
            have := (List.getElem?_eq_some_iff.1 hb).1
            simpa using this
          rw [getElem?_pos s j.toNat hlt]
          have := (List.getElem?_eq_some_iff.1 hb).2
          simp at this
          rw [← this]; rfl
        exact ⟨_, by simp [Instr.index, hu, hj, asIntOf, run_underlying ht, hc, hb'], .int _ _⟩
      · cases hv
    · cases hv
  · cases hv

theorem sim_ext {x : Operand} {x' : RX} {i : Nat} (hx : rxc x = some x') {v : Value} (hv : pop P a (.ext x' i) = some v) : ∃ v', (Instr.extract (act.eval x) i).run P w = .ok v' w ∧ VR r v v' := by
  simp only [pop] at hv
  split at hv
  · rename_i vs hp
    have hu := rxc_ev h hx hp
    generalize act.eval x = u at *
    cases hu with
    | tuple _ cs' h1 h2 =>
      have hi : i < cs'.size := by
        have := (List.getElem?_eq_some_iff.1 hv).1
        rw [← h1]; simpa using this
      exact ⟨cs'[i], by simp [Instr.extract, hi], h2 i v _ (by simpa using hv) (by simp [hi])⟩
  · cases hv

theorem sim_tass {xt t : TypeId} {want : Array (String × TypeId)} {z : Value} {ok : Bool} {x : Operand} {x' : RX} (ht : P.underlying t = some (.interface want)) (hz : zeroC P t = some z) (hx : rxc x = some x')
    {v : Value} (hv : pop P a (.tass want z x' ok) = some v) : ∃ v', (Instr.typeAssert (act.eval x) xt t ok).run P w = .ok v' w ∧ VR r v v' := by
  have hz1 : (zeroValue t).run P w = .ok z w ∧ okC z = true := by
    unfold zeroC at hz
    split at hz
    · rename_i i hi
      split at hz
      · rename_i z' hz'
        split at hz
        · rename_i hc; cases hz; exact ⟨by simp [zeroValue, typeInfo, hi, hz'], hc.1⟩
        · cases hz
      · cases hz
    · cases hz
  have htup : ∀ (u u' : Value) (b : Bool), VR r u u' → VR r (.tuple #[u, .bool b]) (.tuple #[u', .bool b]) := fun u u' b hu =>
    VR.tup_of (l := [u, .bool b]) (c := #[u', .bool b]) (VRL.cons hu (VRL.cons (.bool b) (VRL.nil r)))
  simp only [pop] at hv
  split at hv
  · rename_i hp
    have hu := rxc_ev h hx hp
    generalize act.eval x = u at *
    cases hu
    cases ok with
    | false => cases hv
    | true =>
      cases hv
      exact ⟨_, by simp [Instr.typeAssert, run_underlying ht, hz1.1], htup _ _ _ (VR.of_okC r hz1.2)⟩
  · rename_i d y hp
    have hu := rxc_ev h hx hp
    generalize act.eval x = u at *
    cases hu with
    | iface _ _ y' hy =>
      cases hi : P.info? d with
      | none => simp [csat, hi] at hv
      | some i =>
        obtain ⟨m1, m2⟩ := missing_spec want i.methods
        simp only [csat, hi] at hv
        cases ho : oneOf want i.methods with
        | true =>
          rw [ho] at hv
          have hm := m1 ho
          cases ok with
          | false => cases hv; exact ⟨_, by simp [Instr.typeAssert, run_underlying ht, typeInfo, hi, hm], .iface _ _ _ hy⟩
          | true => cases hv; exact ⟨_, by simp [Instr.typeAssert, run_underlying ht, typeInfo, hi, hm], htup _ _ _ (.iface _ _ _ hy)⟩
        | false =>
          rw [ho] at hv
          obtain ⟨m, hm⟩ := m2 ho
          cases ok with
          | false => cases hv
          | true => cases hv; exact ⟨_, by simp [Instr.typeAssert, run_underlying ht, typeInfo, hi, hm, hz1.1], htup _ _ _ (VR.of_okC r hz1.2)⟩
  · cases hv

end

end Go.Can
