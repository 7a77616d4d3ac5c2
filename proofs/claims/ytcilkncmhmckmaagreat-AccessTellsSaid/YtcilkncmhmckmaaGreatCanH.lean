/-
  The canonical semantics: operations that write.
-/
import Derived.Test.YtcilkncmhmckmaaGreatCanG
namespace Go.Can
open Go
set_option linter.all false

def nextVal : Next → Option Value
  | .value v => some v
  | .skip => some undef
  | _ => none

/-- What a write comes to, on the model's side. -/
def Wrote (P : Program) (s : Sem Next) (r : Rn) (W : CW) (w : World) (v : Value) (W' : CW) : Prop :=
  ∃ r' nl v' w' nx, s.run P w = .ok nx w' ∧ nextVal nx = some v' ∧ VR r' v v' ∧ Sim r' W' w' ∧ W'.log = nl ++ W.log ∧ Mv r w nl r' w'

theorem VR.undef (r : Rn) : VR r undefV undef := .tuple _ _ rfl fun i v v' h => by simp at h

theorem rowR_puts {r : Rn} {cs cs' xs xs' : List Value} {c c' : Array Value} {e : TypeId} {fr : Nat × Nat} {p : Pl} {off : Nat} (hr : RowR r cs true (.cells c e fr) p) (hp : puts cs off xs = some cs') (hx : VRL r xs xs')
    (hsz : c'.size = c.size) (hc : ∀ j, c'[j]? = if p.off + off ≤ j ∧ j < p.off + off + xs'.length then xs'[j - (p.off + off)]? else c[j]?) : RowR r cs' true (.cells c' e (0, 0)) p := by
  obtain ⟨c0, e0, fr0, heq, h1, h2⟩ := hr
  cases heq
  obtain ⟨h3, h4⟩ := h2 rfl
  refine ⟨c', e, (0, 0), rfl, fun i v hv => ?_, fun _ => ⟨rfl, by rw [hsz]; exact h4⟩⟩
  rw [puts_get hp] at hv
  have hl := hx.1
  by_cases hi : off ≤ i ∧ i < off + xs.length
  · rw [if_pos hi] at hv
    obtain ⟨v', h5, h6⟩ := hx.get hv
    exact ⟨v', by rw [hc, if_pos (by omega), show p.off + i - (p.off + off) = i - off by omega]; exact h5, h6⟩
  · rw [if_neg hi] at hv
    obtain ⟨v', h5, h6⟩ := h1 i v hv
    exact ⟨v', by rw [hc, if_neg (by omega)]; exact h5, h6⟩

theorem VRL.all_one {r : Rn} {l l' : List Value} (h : VRL r l l') (ho : l.all one = true) : ∀ v ∈ l', v.oneCell' = true := by
  intro v hv
  obtain ⟨i, hi, rfl⟩ := List.getElem_of_mem hv
  have hi' : i < l.length := by rw [h.1]; exact hi
  have h1 := h.2 i l[i] l'[i] (by simp [hi']) (by simp [hi])
  rw [List.all_eq_true] at ho
  exact h1.one (ho _ (List.getElem_mem hi'))

theorem not_RO {W : CW} {b : Nat} {cs : List Value} (h : W.get b = some (.row cs true)) : ¬ RO W b := by
  rintro ⟨c, hc⟩
  rw [h] at hc
  cases hc

theorem not_RO_map {W : CW} {b : Nat} {es : List (Value × Value)} (h : W.get b = some (.map es)) : ¬ RO W b := by
  rintro ⟨c, hc⟩
  rw [h] at hc
  cases hc

/-- The place of a block that is alive. -/
theorem Sim.place {r : Rn} {W : CW} {w : World} (hs : Sim r W w) {b : Nat} (hb : r.has b) {ob : CObj} (h : W.get b = some ob) (hd : ob ≠ .dead) : ∃ p, r.f b = some p ∧ ObjR r ob (w.heap[p.blk]?) p := by
  rcases hs.tot b ob hb h with h1 | ⟨p, h1⟩
  · exact absurd h1 hd
  · obtain ⟨_, ob', h2, h3⟩ := hs.obj b p h1
    rw [h] at h2; cases h2
    exact ⟨p, h1, h3⟩

/-- Cells written into a row that is our own. -/
theorem write_row {P : Program} {r : Rn} {W : CW} {w : World} (hs : Sim r W w) {b : Nat} (hb : r.has b) {cs cs' xs xs' : List Value} {off : Nat} (hw : W.get b = some (.row cs true)) (hp : puts cs off xs = some cs')
    (hx : VRL r xs xs') (ho : xs.all one = true) (n : Nat) : ∃ p w', r.f b = some p ∧ (storeCells ⟨p.blk, p.off + off, none⟩ xs').run P w = .ok () w' ∧ Sim r (W.putR b cs' off n) w' ∧ Mv r w [.at_ b off (off + n)] r w' := by
  obtain ⟨p, h1, h2⟩ := hs.place hb hw (by simp)
  cases hh : w.heap[p.blk]? with
  | none => rw [hh] at h2; exact h2.elim
  | some O =>
    rw [hh] at h2
    have h2' : RowR r cs true O p := h2
    obtain ⟨c, e, fr, rfl, h3, h4⟩ := h2'
    obtain ⟨rfl, h5⟩ := h4 rfl
    have hlen : p.off + off + 0 + xs'.length ≤ c.size := by
      obtain ⟨g1, g2⟩ := puts_length hp
      have hl := hx.1
      by_cases h0 : xs.length = 0
      · have hcs : off ≤ cs.length := by omega
        by_cases hc0 : cs.length = 0
        · have : off = 0 := by omega
          have h6 : p.off ≤ c.size := by omega
          omega
        · have : cs.length - 1 < cs.length := by omega
          obtain ⟨v', g3, _⟩ := h3 (cs.length - 1) _ (List.getElem?_eq_getElem this)
          have := (Array.getElem?_eq_some_iff.1 g3).1
          omega
      · have : off + xs.length - 1 < cs.length := by omega
        obtain ⟨v', g3, _⟩ := h3 (off + xs.length - 1) _ (List.getElem?_eq_getElem this)
        have := (Array.getElem?_eq_some_iff.1 g3).1
        omega
    obtain ⟨w', g1, g2, gR, g3, c', g4, g5, g6⟩ := run_storeCells (P := P) xs' 0 w c e p.blk (p.off + off) hh (hx.all_one ho) hlen
    refine ⟨p, w', h1, g1, hs.upd (ob := .row cs' true) (e := .at_ b off (off + n)) h1 (not_RO hw) rfl (fun j => CW.get_putR W b j off n cs') ?_ g3 g2 gR rfl⟩
    rw [g4]
    exact rowR_puts ⟨c, e, (0, 0), rfl, h3, h4⟩ hp hx g5 (by simpa using g6)

section
variable {P : Program} {r : Rn} {N : Nat} {a : CAct} {act : Act} {W : CW} {w : World} (hs : Sim r W w)
include hs

theorem store_sim {t : TypeId} {n : Nat} (hn : sizeC P t = some n) {pv xv pv' xv' : Value} (hp : VR r pv pv') (hx : VR r xv xv') {W' : CW} (hv : cstore n pv xv W = some W') :
    ∃ w', (Instr.storeAt t pv' xv').run P w = .ok () w' ∧ Sim r W' w' ∧ ∃ nl, W'.log = nl ++ W.log ∧ Mv r w nl r w' := by
  unfold cstore at hv
  split at hv
  · rename_i b off sp
    split at hv
    · rename_i cs hg
      split at hv
      · rename_i hc
        split at hv
        · rename_i cs' hput; cases hv
          cases hp with
          | ptr _ _ _ ad hb hh =>
            obtain ⟨p, w', h1, h2, h3, h4⟩ := write_row (P := P) hs hb hg hput hx.cells hc.2 n
            have hne : ¬ (xv'.cells.size ≠ n) := by
              have := hx.cells.1
              rw [hc.1] at this
              simp [this]
            rw [hh p h1]
            exact ⟨w', by simp [Instr.storeAt, Instr.sureAddr, storeVar, run_sizeOf hn, hne, h2], h3, [.at_ b off (off + n)], rfl, h4⟩
        · cases hv
      · cases hv
    · cases hv
  · cases hv

theorem cut_zero {off : Nat} {cs l : List Value} (h : cut off 0 cs = some l) : l = [] := by
  have := (cut_eq h).2
  exact List.length_eq_zero_iff.1 this

theorem cell_heap {w w2 : World} (h : w2.heap = w.heap) (a : Addr) : w2.cell? a = w.cell? a := by simp [World.cell?, h]

/-- The first cells of a slice that lies where it should. -/
theorem firstCells_sim {b off k c n size : Nat} {sp : Option Nat} {xv' : Value} (hx : VR r (.slice (some ⟨b, off, sp⟩) k c) xv') {cs l : List Value} {own : Bool} (hg : W.get b = some (.row cs own))
    (hl : cut off (n * size) cs = some l) (hk : n ≤ k) (hn : 0 < n) :
    ∃ l', VRL r l l' ∧ l'.length = n * size ∧ ∀ w2 : World, w2.heap = w.heap → (Builtin.firstCells size n xv').run P w2 = .ok l'.toArray w2 := by
  cases hx with
  | slc _ _ _ _ _ ad c' hb hnc hcc he hh =>
    obtain ⟨p, h1, h2⟩ := hs.place hb hg (by simp)
    obtain ⟨h3, h4, h5, _⟩ := hh p h1
    have h6 := h5 (by omega)
    cases hw : w.heap[p.blk]? with
    | none => rw [hw] at h2; exact h2.elim
    | some O =>
      rw [hw] at h2
      obtain ⟨l', e1, e2, e3⟩ := row_cells hw h2 hl
      refine ⟨l', e1, e2, fun w2 hw2 => run_firstCells_some w2 size n ad k c' l' e2 fun j v hj => ?_⟩
      rw [cell_heap hs hw2, add_block h3 h4 h6, Nat.add_assoc]
      exact e3 j v hj

theorem srcRow_sim {size n : Nat} {xv xv' : Value} (hx : VR r xv xv') {l : List Value} (hl : srcRow size xv W = some (n, l)) :
    (∃ q k c, xv' = .slice q k c ∧ k = n) ∧ (n = 0 → l = []) ∧ ∃ l', VRL r l l' ∧ l'.length = n * size ∧ ∀ w2 : World, w2.heap = w.heap → (Builtin.firstCells size n xv').run P w2 = .ok l'.toArray w2 := by
  unfold srcRow at hl
  split at hl
  · rename_i c
    cases hl
    cases hx
    exact ⟨⟨_, _, _, rfl, rfl⟩, fun _ => rfl, [], VRL.nil r, by simp, fun w2 _ => by simp [Builtin.firstCells]⟩
  · rename_i b off sp k c
    split at hl
    · rename_i h0; subst h0
      cases hl
      cases hx
      exact ⟨⟨_, _, _, rfl, rfl⟩, fun _ => rfl, [], VRL.nil r, by simp, fun w2 _ => by simp [Builtin.firstCells, loadCells, loadCellsFrom]⟩
    · rename_i h0
      split at hl
      · rename_i cs own hg
        split at hl
        · rename_i l0 hc
          cases hl
          refine ⟨?_, fun e => absurd e h0, firstCells_sim hs hx hg hc (Nat.le_refl _) (by omega)⟩
          cases hx
          exact ⟨_, _, _, rfl, rfl⟩
        · cases hl
      · cases hl
  · cases hl

theorem run_lenOf {q : Option Addr} {k c : Nat} (w2 : World) : (Builtin.lenOf (.slice q k c)).run P w2 = .ok k w2 := rfl

theorem cpy_sim {dT sT ty e : TypeId} {size : Nat} (ht : P.underlying dT = some (.slice e)) (hsz : sizeC P e = some size) {dv xv dv' xv' : Value} (hd : VR r dv dv') (hx : VR r xv xv') {v : Value} {W' : CW} (hv : ccpy size dv xv W = some (v, W')) :
    ∃ w', (Builtin.copy_ #[dT, sT] ty #[dv', xv']).run P w = .ok v w' ∧ VR r v v ∧ Sim r W' w' ∧ ∃ nl, W'.log = nl ++ W.log ∧ Mv r w nl r w' := by
  unfold ccpy at hv
  split at hv
  · rename_i base dLen dc sb sLen sc
    split at hv
    · rename_i h0
      cases hv
      have hmin : Nat.min sLen dLen = 0 := h0
      have e1 : ∃ q c, dv' = .slice q dLen c := by cases hd <;> exact ⟨_, _, rfl⟩
      have e2 : ∃ q c, xv' = .slice q sLen c := by cases hx <;> exact ⟨_, _, rfl⟩
      obtain ⟨q1, c1, rfl⟩ := e1
      obtain ⟨q2, c2, rfl⟩ := e2
      have hf : (Builtin.firstCells size 0 (.slice q2 sLen c2)).run P w = .ok #[] w := by cases q2 <;> simp [Builtin.firstCells, loadCells, loadCellsFrom]
      refine ⟨w, ?_, .int _ _, hs, [], rfl, Mv.refl hs.none_ge⟩
      cases q1 <;> simp [Builtin.copy_, run_underlying ht, Builtin.lenOf, hmin, run_sizeOf hsz, hf, storeCells, goInt]
    · rename_i h0
      split at hv
      · rename_i b off sp b2 off2 sp2
        split at hv
        · rename_i cs2 own2 cs hg2 hg
          split at hv
          · rename_i l hl
            split at hv
            · rename_i cs' hput; cases hv
              have hone : l.all one = true := by
                by_cases ho : l.all one = true
                · exact ho
                · rw [if_neg ho] at hput; cases hput
              rw [if_pos hone] at hput
              obtain ⟨l', g1, g2, g3⟩ := firstCells_sim (P := P) hs hx hg2 hl (Nat.min_le_left _ _) (by omega)
              have hbN : r.has b := by cases hd; assumption
              obtain ⟨p, w', k1, k2, k3, k4⟩ := write_row (P := P) hs hbN hg hput g1 hone (min sLen dLen * size)
              cases hd with
              | slc _ _ _ _ _ ad c' hb hnc hcc he hh =>
                obtain ⟨m1, m2, m3, _⟩ := hh p k1
                have m4 := m3 (by omega)
                have had : ad = ⟨p.blk, p.off + off, none⟩ := by
                  obtain ⟨x1, x2, x3⟩ := ad; simp at m1 m2 m4; subst m1; subst m2; subst m4; rfl
                subst had
                have e2 : ∃ q c, xv' = .slice q sLen c := by cases hx <;> exact ⟨_, _, rfl⟩
                obtain ⟨q2, c2, rfl⟩ := e2
                refine ⟨w', ?_, .int _ _, k3, [.at_ b off (off + min sLen dLen * size)], rfl, k4⟩
                simp [Builtin.copy_, run_underlying ht, Builtin.lenOf, run_sizeOf hsz, g3 w rfl, k2, goInt]
            · cases hv
          · cases hv
        · cases hv
      · cases hv
  · cases hv

theorem clr_sim {t ty e : TypeId} {z : Value} (ht : P.underlying t = some (.slice e)) (hz : zeroC P e = some z) {sv sv' : Value} (hx : VR r sv sv') {W' : CW} (hv : cclr (cells z) sv W = some W') :
    ∃ w', (Builtin.clear_ #[t] ty #[sv']).run P w = .ok (.tuple #[]) w' ∧ Sim r W' w' ∧ ∃ nl, W'.log = nl ++ W.log ∧ Mv r w nl r w' := by
  obtain ⟨iz, z1, z2, z3, z4⟩ := zeroC_spec hz
  have hzv : ∀ w : World, (zeroValue e).run P w = .ok z w := fun w => by simp [zeroValue, typeInfo, z1, z2]
  unfold cclr at hv
  split at hv
  · cases hv
    cases hx
    exact ⟨w, by simp [Builtin.clear_, run_underlying ht], hs, [], rfl, Mv.refl hs.none_ge⟩
  · rename_i b off sp n c
    split at hv
    · rename_i h0; subst h0; cases hv
      cases hx
      exact ⟨w, by simp [Builtin.clear_, run_underlying ht], hs, [], rfl, Mv.refl hs.none_ge⟩
    · rename_i h0
      split at hv
      · rename_i cs hg
        split at hv
        · rename_i cs' hput; cases hv
          have hone : (cells z).all one = true := by
            by_cases ho : (cells z).all one = true
            · exact ho
            · rw [if_neg ho] at hput; cases hput
          rw [if_pos hone] at hput
          have hones : (reps n (cells z)).all one = true := by
            rw [List.all_eq_true] at *
            intro u hu
            have : ∀ m, u ∈ reps m (cells z) → u ∈ cells z := by
              intro m
              induction m with
              | zero => intro hh; simp [reps] at hh
              | succ m ih => intro hh; simp [reps] at hh; rcases hh with h1 | h1; exact h1; exact ih h1
            exact hone u (this n hu)
          have hbN : r.has b := by cases hx; assumption
          obtain ⟨p, w', k1, k2, k3, k4⟩ := write_row (P := P) hs hbN hg hput ((VRL.of_okC r z3).reps n) hones (n * (cells z).length)
          cases hx with
          | slc _ _ _ _ _ ad c' hb hnc hcc he hh =>
            obtain ⟨m1, m2, m3, _⟩ := hh p k1
            have m4 := m3 (by omega)
            have had : ad = ⟨p.blk, p.off + off, none⟩ := by
              obtain ⟨x1, x2, x3⟩ := ad; simp at m1 m2 m4; subst m1; subst m2; subst m4; rfl
            subst had
            refine ⟨w', ?_, k3, [.at_ b off (off + n * (cells z).length)], rfl, k4⟩
            have hzc : (Builtin.zeroCells z.cells n).toList = reps n (cells z) := by
              rw [cells_eq]
              by_cases hz0 : 0 < z.cells.size
              · rw [← made_eq z n hz0]; rfl
              · have : z.cells = #[] := Array.size_eq_zero_iff.1 (by omega)
                rw [this]
                have : ∀ m, reps m (#[] : Array Value).toList = [] := by
                  intro m; induction m with
                  | zero => rfl
                  | succ m ih => simpa [reps] using ih
                rw [this]; simp [Builtin.zeroCells]
            obtain ⟨m, rfl⟩ : ∃ m, n = m + 1 := ⟨n - 1, by omega⟩
            simp [Builtin.clear_, run_underlying ht, hzv, hzc, k2]
        · cases hv
      · cases hv
  · cases hv


theorem sameBits_int (n : Nat) (k : IntKind) (m : Int) : Instr.sameBits n (.int k m) (.int k m) = true := by cases n <;> simp [Instr.sameBits]

theorem mput_sim {t kt et : TypeId} {kd : IntKind} (ht : P.underlying t = some (.map kt et)) (hk : P.underlying kt = some (.int kd)) {mb : Nat} {kk : IntKind} {ki : Int} {v mv' v' : Value}
    (hm : VR r (.map (some mb)) mv') (hv : VR r v v') {es es' : List (Value × Value)} (hg : W.get mb = some (.map es))
    (hf : (∃ i u, mapFind kk ki es 0 = some (some (i, u)) ∧ es' = es.set i (.int kk ki, v)) ∨ (mapFind kk ki es 0 = some none ∧ es' = es ++ [(.int kk ki, v)])) :
    ∃ w', (Instr.mapUpdate t mv' (.int kk ki) v').run P w = .ok () w' ∧ Sim r (W.put mb (.map es')) w' ∧ ∃ nl, (W.put mb (.map es')).log = nl ++ W.log ∧ Mv r w nl r w' := by
  cases hm with
  | map _ mb' hb hh =>
    obtain ⟨p, h1, h2⟩ := hs.place hb hg (by simp)
    have := hh p h1
    subst this
    cases hw : w.heap[p.blk]? with
    | none => rw [hw] at h2; exact h2.elim
    | some O =>
      rw [hw] at h2
      obtain ⟨en, clock, rfl, e1, e2⟩ := (h2 : MapR r es O)
      have hgo : (getObj p.blk).run P w = .ok (.map en clock) w := by simp [getObj, Sem.run, hw]
      have hchk := run_checkKey (P := P) hk false w (kk := kk) (k := ki)
      have hlt : p.blk < w.heap.size := by
        rcases Nat.lt_or_ge p.blk w.heap.size with h | h
        · exact h
        · rw [Array.getElem?_eq_none h] at hw; cases hw
      have hset : ∀ O', (setObj p.blk O').run P w = .ok () { w with heap := w.heap.setIfInBounds p.blk O' } := fun O' => by simp [setObj, Sem.run, hw]
      have hrest : ∀ O', MapR r es' O' → Stays w { w with heap := w.heap.setIfInBounds p.blk O' } := fun O' hO => by
        refine ⟨rfl, rfl, fun ad _ => ?_⟩
        obtain ⟨en', cl', rfl, _⟩ := hO
        by_cases hb2 : ad.block = p.blk
        · have e3 : (w.heap.setIfInBounds p.blk (.map en' cl'))[p.blk]? = some (.map en' cl') := by simp [hlt]
          simp only [World.frozen?, hb2, e3, hw]
        · have hne : p.blk ≠ ad.block := fun e => hb2 e.symm
          simp [World.frozen?, Array.getElem?_setIfInBounds_ne hne]
      have hres : ∀ O', MapR r es' O' → Sim r (W.put mb (.map es')) { w with heap := w.heap.setIfInBounds p.blk O' } ∧ Mv r w [.all mb] r { w with heap := w.heap.setIfInBounds p.blk O' } := fun O' hO =>
        hs.upd (ob := .map es') h1 (not_RO_map hg) rfl (fun j => CW.get_put W mb j _) (by simp [hlt]; exact hO) (fun x hx => by simp [Array.getElem?_setIfInBounds_ne (Ne.symm hx)]) (by simp) (hrest O' hO) rfl
      rcases hf with ⟨i, u, hf, rfl⟩ | ⟨hf, rfl⟩
      · rcases mapFind_spec es en.toList 0 _ (by simpa using e1) (fun j kv vv hj => by obtain ⟨x, q1, q2⟩ := e2 j kv vv hj; exact ⟨x, by simpa using q1, q2⟩) hf with ⟨g1, _⟩ | ⟨j, vv, v2, e3, g1, g2, g3, g4, g5, g6, g7⟩
        · cases g1
        · simp at g1
          obtain ⟨rfl, rfl⟩ := g1
          have hfk : (Instr.findKey kt (.int kk ki) en.toList).run P w = .ok (some (i, v2)) w := by simp [Instr.findKey, run_underlying hk, g7 kd]
          have g4' : en[i]? = some e3 := by simpa using g4
          have hi : i < en.size := (Array.getElem?_eq_some_iff.1 g4').1
          obtain ⟨s1, s2⟩ := hres (.map (en.modify i fun e => { e with key := .int kk ki, val := v' }) clock) ⟨_, clock, rfl, by simp [e1], fun j kv vv hj => by
            rw [List.getElem?_set] at hj
            split at hj
            · rename_i hij; subst hij
              split at hj
              · cases hj
                exact ⟨{ e3 with key := .int kk ki, val := v' }, by simp [Array.getElem?_modify, g4'], .int _ _, hv⟩
              · cases hj
            · rename_i hij
              obtain ⟨x, q1, q2⟩ := e2 j kv vv hj
              exact ⟨x, by simp [Array.getElem?_modify, hij, q1], q2⟩⟩
          have sb := sameBits_int hs 10000 kk ki
          refine ⟨_, ?_, s1, [.all mb], rfl, s2⟩
          simp [Instr.mapUpdate, run_underlying ht, hgo, hchk, hfk, Instr.keyThatStays, g4', g6, sb, hset]
      · rcases mapFind_spec es en.toList 0 _ (by simpa using e1) (fun j kv vv hj => by obtain ⟨x, q1, q2⟩ := e2 j kv vv hj; exact ⟨x, by simpa using q1, q2⟩) hf with ⟨_, g2⟩ | ⟨j, vv, v2, e3, g1, _⟩
        · have hfk : (Instr.findKey kt (.int kk ki) en.toList).run P w = .ok none w := by simp [Instr.findKey, run_underlying hk, g2 kd]
          obtain ⟨s1, s2⟩ := hres (.map (en.push { key := .int kk ki, val := v', born := clock }) (clock + 1)) ⟨_, clock + 1, rfl, by simp [e1], fun j kv vv hj => by
            rw [List.getElem?_append] at hj
            split at hj
            · rename_i hjl
              obtain ⟨x, q1, q2⟩ := e2 j kv vv hj
              have : j < en.size := (Array.getElem?_eq_some_iff.1 q1).1
              exact ⟨x, by rw [Array.getElem?_push_lt this]; simp [← q1, this], q2⟩
            · rename_i hjl
              have hj0 : j - es.length = 0 := by
                by_cases hq : j - es.length = 0
                · exact hq
                · rw [List.getElem?_eq_none (by simp; omega)] at hj; cases hj
              rw [hj0] at hj
              simp at hj
              obtain ⟨rfl, rfl⟩ := hj
              have : j = en.size := by omega
              exact ⟨{ key := .int kk ki, val := v', born := clock }, by rw [this]; simp, .int _ _, hv⟩⟩
          refine ⟨_, ?_, s1, [.all mb], rfl, s2⟩
          simp [Instr.mapUpdate, run_underlying ht, hgo, hchk, hfk, hset]
        · cases g1

/-! append. -/
theorem zeroCells_size (z : Array Value) (n : Nat) : (Builtin.zeroCells z n).size = n * z.size := by simp [Builtin.zeroCells]

theorem run_append {t u ty e ue : TypeId} {i : TypeInfo} {z : Value} (ht : P.underlying t = some (.slice e)) (hu : P.underlying u = some (.slice ue)) (hi : P.info? e = some i) (hz : i.zero = some z)
    {q q2 : Option Addr} {sLen sCap n c : Nat} {olds news : List Value} (hold : ∀ w2 : World, w2.heap = w.heap → (Builtin.firstCells i.size sLen (.slice q sLen sCap)).run P w2 = .ok olds.toArray w2)
    (hnew : ∀ w2 : World, w2.heap = w.heap → (Builtin.firstCells i.size n (.slice q2 n c)).run P w2 = .ok news.toArray w2) (hg : sCap < sLen + n) (hb : (sLen + n) * i.bytes ≤ 2 ^ 40) (hl : sLen + n ≤ 2 ^ 40) :
    (Builtin.append_ #[t, u] ty #[.slice q sLen sCap, .slice q2 n c]).run P w = .ok (.slice (some ⟨w.heap.size, 0, none⟩) (sLen + n) (grownCap w (sLen + n) sCap e))
      (w.drew.alloc (.cells (olds.toArray ++ (news.toArray ++ Builtin.zeroCells z.cells (grownCap w (sLen + n) sCap e - (sLen + n)))) e)) := by
  have hn : ¬ (sLen + n ≤ sCap) := by omega
  have h63' : ¬ (9223372036854775807 < ((sLen : Int) + (n : Int))) := by omega
  have h48 : Builtin.nextslicecap (sLen + n) sCap * i.bytes ≤ 281474976710656 := growslice_fits (by omega) (by omega)
  have h48' : ¬ (281474976710656 < Builtin.nextslicecap (sLen + n) sCap * i.bytes) := by omega
  have hf := hnew w.drew rfl
  have hfo := hold w.drew rfl
  simp [Builtin.append_, run_underlying ht, run_underlying hu, sizeOf, typeInfo, zeroValue, hi, hz, Builtin.lenOf, hn, h63', h48', Question.forced, hf, hfo, newRow, grownCap]

theorem run_append_room {t u ty e ue : TypeId} {i : TypeInfo} (ht : P.underlying t = some (.slice e)) (hu : P.underlying u = some (.slice ue)) (hi : P.info? e = some i)
    {ad : Addr} {q2 : Option Addr} {sLen sCap n c : Nat} {news : List Value}
    (hnew : ∀ w2 : World, w2.heap = w.heap → (Builtin.firstCells i.size n (.slice q2 n c)).run P w2 = .ok news.toArray w2) (hg : sLen + n ≤ sCap) {w' : World} (hst : (storeCells (ad.add (sLen * i.size)) news).run P w = .ok () w') :
    (Builtin.append_ #[t, u] ty #[.slice (some ad) sLen sCap, .slice q2 n c]).run P w = .ok (.slice (some ad) (sLen + n) sCap) w' := by
  have hf := hnew w rfl
  simp [Builtin.append_, run_underlying ht, run_underlying hu, sizeOf, typeInfo, hi, Builtin.lenOf, hg, hf, hst]

theorem le_grownCap (w : World) (need old : Nat) (e : TypeId) : need ≤ grownCap w need old e := by simp [grownCap, Question.cut]

end

end Go.Can
