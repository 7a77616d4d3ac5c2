/-
  The canonical semantics: writing to blocks.
-/
import Derived.Test.YtcilkncmhmckmaaGreatCanF
import Derived.Laws.Append
import Derived.Laws.NewFold
namespace Go.Can
open Go
set_option linter.all false

theorem one_oneCell {v : Value} (h : one v = true) : v.oneCell' = true := by cases v <;> first | rfl | (simp [one] at h)

theorem VR.one {r : Rn} {v v' : Value} (h : VR r v v') (ho : Can.one v = true) : v'.oneCell' = true := by
  cases h <;> first | rfl | (simp [Can.one] at ho)

theorem setCell_same {w : World} {blk off : Nat} {c : Array Value} {e : TypeId} {fr : Nat × Nat} {v : Value} (h : w.heap[blk]? = some (.cells c e fr)) :
    (w.setCell ⟨blk, off, none⟩ v).heap[blk]? = some (.cells (c.setIfInBounds off v) e fr) := by simp [World.setCell, Array.getElem?_modify, h]

theorem setCell_other {w : World} {blk off b : Nat} {v : Value} (h : b ≠ blk) : (w.setCell ⟨blk, off, none⟩ v).heap[b]? = w.heap[b]? := by
  simp [World.setCell, Array.getElem?_modify, Ne.symm h]

theorem run_storeCells {P : Program} : ∀ (l : List Value) (i : Nat) (w : World) (c : Array Value) (e : TypeId) (blk off : Nat), w.heap[blk]? = some (.cells c e (0, 0)) → (∀ v ∈ l, v.oneCell' = true) → off + i + l.length ≤ c.size →
    ∃ w', (storeCells ⟨blk, off, none⟩ l i).run P w = .ok () w' ∧ w'.heap.size = w.heap.size ∧ Stays w w' ∧ (∀ b, b ≠ blk → w'.heap[b]? = w.heap[b]?) ∧
      ∃ c' : Array Value, w'.heap[blk]? = some (.cells c' e (0, 0)) ∧ c'.size = c.size ∧ ∀ j, c'[j]? = if off + i ≤ j ∧ j < off + i + l.length then l[j - (off + i)]? else c[j]?
  | [], i, w, c, e, blk, off, hb, ho, hl => ⟨w, by simp [storeCells], rfl, Stays.refl w, fun _ _ => rfl, c, hb, rfl, fun j => by simp; omega⟩
  | v :: l, i, w, c, e, blk, off, hb, ho, hl => by
    simp at hl
    have hadd : (⟨blk, off, none⟩ : Addr).add i = ⟨blk, off + i, none⟩ := add_block rfl rfl rfl i
    have hcell : w.cell? ⟨blk, off + i, none⟩ = some (c[off + i]'(by omega)) := by rw [cell_of hb]; simp
    have hfr : w.frozen? ⟨blk, off + i, none⟩ = false := by simp [World.frozen?, hb]
    have hst : (store (⟨blk, off + i, none⟩ : Addr) v).run P w = .ok () (w.setCell ⟨blk, off + i, none⟩ v) := by
      rw [run_store P w _ v _ (ho v (by simp))]; simp [hcell, hfr]
    have hb1 : (w.setCell ⟨blk, off + i, none⟩ v).heap[blk]? = some (.cells (c.setIfInBounds (off + i) v) e (0, 0)) := by
      exact setCell_same hb
    obtain ⟨w', h1, h2, hR, h3, c', h4, h5, h6⟩ := run_storeCells (P := P) l (i + 1) (w.setCell ⟨blk, off + i, none⟩ v) (c.setIfInBounds (off + i) v) e blk off hb1 (fun u hu => ho u (by simp [hu])) (by simp; omega)
    refine ⟨w', by simp only [storeCells, Sem.run_bind, hadd, hst, Result.andThen_ok, h1], by rw [h2]; simp, Stays.trans (w1 := w.setCell ⟨blk, off + i, none⟩ v) ⟨rfl, rfl, fun a _ => World.frozen?_setCell _ _ _ _⟩ hR (by simp), fun b hb' => ?_, c', h4, by rw [h5]; simp, fun j => ?_⟩
    · rw [h3 b hb', setCell_other hb']
    · rw [h6]
      by_cases hj : off + (i + 1) ≤ j ∧ j < off + (i + 1) + l.length
      · rw [if_pos hj, if_pos (by simp; omega), show j - (off + i) = (j - (off + (i + 1))) + 1 by omega]; simp
      · rw [if_neg hj]
        by_cases hj2 : j = off + i
        · have hlt : off + i < c.size := by omega
          subst hj2; rw [if_pos (by simp)]; simp [hlt]
        · rw [if_neg (by simp; omega), Array.getElem?_setIfInBounds_ne (by omega)]

theorem Sim.none_ge {r : Rn} {W : CW} {w : World} (hs : Sim r W w) : ∀ b, ¬ r.has b → r.f b = none := by
  intro b hb
  cases hf : r.f b with
  | none => rfl
  | some p => exact absurd (hs.obj b p hf).1 hb

theorem Sim.drew {r : Rn} {W : CW} {w : World} (hs : Sim r W w) : Sim r W w.drew := ⟨hs.n, hs.obj, hs.tot, hs.inj, hs.fresh, hs.here⟩

theorem Sim.upd {r : Rn} {W W' : CW} {w w' : World} (hs : Sim r W w) {b : Nat} {p : Pl} {ob : CObj} {e : LE} (hp : r.f b = some p) (hown : ¬ RO W b) (hn : W'.next = W.next)
    (hg : ∀ j, W'.get j = if j = b then some ob else W.get j) (hob : ObjR r ob (w'.heap[p.blk]?) p)
    (hoth : ∀ x, x ≠ p.blk → w'.heap[x]? = w.heap[x]?) (hsz : w'.heap.size = w.heap.size) (hR : Stays w w') (he : e.blk = b) : Sim r W' w' ∧ Mv r w [e] r w' := by
  have hbN : b < W.next := by rw [← hs.n]; exact r.lt b (hs.obj b p hp).1
  have hfresh : ∀ j, W'.next ≤ j → W'.get j = none := by
    intro j hj
    rw [hn] at hj
    rw [hg, if_neg (by omega)]
    exact hs.fresh j hj
  have hhere : ∀ j, r.has j → W'.get j ≠ none := by
    intro j hj
    rw [hg]
    split
    · simp
    · exact hs.here j hj
  refine ⟨⟨by rw [hn]; exact hs.n, fun b' p' hp' => ?_, fun b' ob' hb' hg' => ?_, fun b1 b2 p1 p2 h1 h2 h3 => ?_, hfresh, hhere⟩, ⟨Later.refl r, by omega, fun blk hblk hno => ?_, fun b' hb' p' hp' => ?_, hR⟩⟩
  · by_cases e1 : b' = b
    · subst e1
      rw [hp] at hp'; cases hp'
      exact ⟨(hs.obj b' p hp).1, ob, by rw [hg, if_pos rfl], hob⟩
    · obtain ⟨h1, ob', h2, h3⟩ := hs.obj b' p' hp'
      refine ⟨h1, ob', by rw [hg, if_neg e1]; exact h2, ?_⟩
      rw [hoth]
      · exact h3
      · intro e2
        rcases hs.inj b' b p' p hp' hp e2 with h4 | h4
        · exact e1 h4
        · exact hown h4.2
  · by_cases e1 : b' = b
    · subst e1; exact .inr ⟨p, hp⟩
    · rw [hg, if_neg e1] at hg'; exact hs.tot b' ob' hb' hg'
  · rcases hs.inj b1 b2 p1 p2 h1 h2 h3 with h4 | ⟨h4, h5⟩
    · exact .inl h4
    · refine .inr ⟨?_, ?_⟩
      · obtain ⟨cs, hc⟩ := h4
        have : b1 ≠ b := fun e1 => hown (e1 ▸ ⟨cs, hc⟩)
        exact ⟨cs, by rw [hg, if_neg this]; exact hc⟩
      · obtain ⟨cs, hc⟩ := h5
        have : b2 ≠ b := fun e1 => hown (e1 ▸ ⟨cs, hc⟩)
        exact ⟨cs, by rw [hg, if_neg this]; exact hc⟩
  · exact hoth blk fun e1 => hno b p (hs.obj b p hp).1 hp e1.symm ⟨e, by simp, he⟩
  · rw [hs.none_ge b' hb'] at hp'; cases hp'

/-- Blocks that are numbered, and not born yet. -/
def Rn.reserve (r : Rn) (k : Nat) : Rn := ⟨r.N + k, r.has, r.f, fun b h => Nat.lt_of_lt_of_le (r.lt b h) (Nat.le_add_right _ _)⟩

theorem Rn.later_reserve (r : Rn) (k : Nat) : Later r (r.reserve k) := ⟨fun _ h => h, fun _ _ _ h => h⟩

theorem Sim.reserve {r : Rn} {W : CW} {w : World} (hs : Sim r W w) (k : Nat) : Sim (r.reserve k) (W.reserve k) w ∧ Mv r w [] (r.reserve k) w := by
  refine ⟨⟨by simp [Rn.reserve, CW.reserve, hs.n], fun b p hp => ?_, hs.tot, hs.inj, fun b hb => hs.fresh b (by simp [CW.reserve] at hb; omega), hs.here⟩, ⟨r.later_reserve k, Nat.le_refl _, fun _ _ _ => rfl, fun b hb p hp => ?_, Stays.refl w⟩⟩
  · obtain ⟨h1, ob, h2, h3⟩ := hs.obj b p hp
    exact ⟨h1, ob, h2, h3.mono (r.later_reserve k)⟩
  · have : r.f b = some p := hp
    rw [hs.none_ge b hb] at this; cases this

/-- A block is born. -/
def Rn.bear (r : Rn) (b : Nat) (p : Pl) : Rn := ⟨r.N, fun j => (j = b ∧ b < r.N) ∨ r.has j, fun j => if j = b then some p else r.f j, fun j h => h.elim (fun e => by rw [e.1]; exact e.2) (r.lt j)⟩

theorem Rn.later_bear (r : Rn) {b : Nat} (p : Pl) (hb : ¬ r.has b) : Later r (r.bear b p) :=
  ⟨fun j hj => .inr hj, fun j hj x hx => by
    have : j ≠ b := fun e => hb (e ▸ hj)
    simp only [Rn.bear] at hx; rw [if_neg this] at hx; exact hx⟩

theorem Stays.alloc {r : Rn} {w : World} {ob : CObj} {O : Obj} {p : Pl} (h : ObjR r ob (some O) p) (ho : ∀ cs, ob ≠ .row cs false) : Stays w (w.alloc O) := by
  refine ⟨rfl, rfl, fun a ha => World.frozen?_alloc_old _ _ _ (by omega)⟩

theorem Sim.bear {r : Rn} {W W' : CW} {w : World} (hs : Sim r W w) {b : Nat} {ob : CObj} {O : Obj} {tot : Nat} (hb : b < W.next) (hnb : ¬ r.has b) (hob : ObjR (r.bear b ⟨w.heap.size, 0, tot⟩) ob (some O) ⟨w.heap.size, 0, tot⟩)
    (hn : W'.next = W.next) (hget : ∀ j, W'.get j = if j = b then some ob else W.get j) (ho : ∀ cs, ob ≠ .row cs false) :
    Sim (r.bear b ⟨w.heap.size, 0, tot⟩) W' (w.alloc O) ∧ Mv r w [] (r.bear b ⟨w.heap.size, 0, tot⟩) (w.alloc O) := by
  have hlat := r.later_bear ⟨w.heap.size, 0, tot⟩ hnb
  have hlt : ∀ b p, r.f b = some p → p.blk < w.heap.size := by
    intro b p hp
    obtain ⟨h1, ob', h2, h3⟩ := hs.obj b p hp
    rcases Nat.lt_or_ge p.blk w.heap.size with h | h
    · exact h
    · rw [Array.getElem?_eq_none h] at h3; cases ob' <;> exact h3.elim
  have hold : ∀ x, x < w.heap.size → (w.alloc O).heap[x]? = w.heap[x]? := by
    intro x hx
    show (w.heap.push O)[x]? = w.heap[x]?
    rw [Array.getElem?_push_lt hx]; simp [hx]
  have hnew : (w.alloc O).heap[w.heap.size]? = some O := by
    show (w.heap.push O)[w.heap.size]? = some O
    simp
  have hfb : ∀ j, (r.bear b ⟨w.heap.size, 0, tot⟩).f j = if j = b then some ⟨w.heap.size, 0, tot⟩ else r.f j := fun j => rfl
  have hfresh : ∀ j, W'.next ≤ j → W'.get j = none := by
    intro j hj
    rw [hn] at hj
    rw [hget, if_neg (by omega)]
    exact hs.fresh j hj
  have hhere : ∀ j, (r.bear b ⟨w.heap.size, 0, tot⟩).has j → W'.get j ≠ none := by
    intro j hj
    rw [hget]
    split
    · simp
    · rename_i e
      exact hj.elim (fun h => absurd h.1 e) (hs.here j)
  refine ⟨⟨by rw [hn]; exact hs.n, fun j p hp => ?_, fun j ob' hj hg => ?_, fun b1 b2 p1 p2 h1 h2 h3 => ?_, hfresh, hhere⟩, ⟨hlat, by simp, fun blk hblk hno => hold blk hblk, fun j hj p hp => ?_, Stays.alloc hob ho⟩⟩
  · rw [hfb] at hp
    split at hp
    · rename_i e; cases hp
      refine ⟨.inl ⟨e, by rw [hs.n]; exact hb⟩, ob, by rw [hget, if_pos e], by rw [hnew]; exact hob⟩
    · rename_i e
      obtain ⟨h1, ob', h2, h3⟩ := hs.obj j p hp
      refine ⟨.inr h1, ob', by rw [hget, if_neg e]; exact h2, ?_⟩
      rw [hold _ (hlt j p hp)]
      exact h3.mono hlat
  · rw [hget] at hg
    split at hg
    · rename_i e; exact .inr ⟨_, by rw [hfb, if_pos e]⟩
    · rename_i e
      rcases hj with hj | hj
      · exact absurd hj.1 e
      · rcases hs.tot j ob' hj hg with h1 | ⟨x, h1⟩
        · exact .inl h1
        · exact .inr ⟨x, by rw [hfb, if_neg e]; exact h1⟩
  · rw [hfb] at h1 h2
    split at h1
    · rename_i e1; cases h1
      split at h2
      · rename_i e2; exact .inl (e1.trans e2.symm)
      · have := hlt b2 p2 h2; simp at h3; omega
    · rename_i e1
      split at h2
      · cases h2; have := hlt b1 p1 h1; simp at h3; omega
      · rename_i e2
        rcases hs.inj b1 b2 p1 p2 h1 h2 h3 with h4 | ⟨⟨c1, h4⟩, ⟨c2, h5⟩⟩
        · exact .inl h4
        · refine .inr ⟨⟨c1, ?_⟩, ⟨c2, ?_⟩⟩
          · rw [hget, if_neg e1]; exact h4
          · rw [hget, if_neg e2]; exact h5
  · rw [hfb] at hp
    split at hp
    · cases hp; exact .inl (Nat.le_refl _)
    · have hj' : ¬ r.has j := fun e => hj e
      rw [hs.none_ge j hj'] at hp; cases hp

theorem Rn.push_eq (r : Rn) (p : Pl) : r.push p = (r.reserve 1).bear r.N p := by
  simp [Rn.push, Rn.bear, Rn.reserve]

theorem Sim.push {r : Rn} {W : CW} {w : World} (hs : Sim r W w) {ob : CObj} {O : Obj} {tot : Nat} (hob : ObjR (r.push ⟨w.heap.size, 0, tot⟩) ob (some O) ⟨w.heap.size, 0, tot⟩) (ho : ∀ cs, ob ≠ .row cs false) :
    Sim (r.push ⟨w.heap.size, 0, tot⟩) (W.push ob) (w.alloc O) ∧ Mv r w [] (r.push ⟨w.heap.size, 0, tot⟩) (w.alloc O) := by
  rw [r.push_eq] at *
  obtain ⟨h1, h2⟩ := hs.reserve 1
  obtain ⟨h3, h4⟩ := h1.bear (W' := W.push ob) (b := r.N) (by simp [CW.reserve, hs.n]) (fun h => Nat.lt_irrefl _ (r.lt _ h)) hob rfl (fun j => by rw [CW.get_push, hs.n]; rfl) ho
  exact ⟨h3, h2.trans h4⟩

def Rn.kill (r : Rn) (b : Nat) : Rn := ⟨r.N, r.has, fun b' => if b' = b then none else r.f b', r.lt⟩

theorem Rn.later_kill (r : Rn) (b : Nat) : Later r (r.kill b) :=
  ⟨fun _ h => h, fun b' hb x hx => by
    simp only [Rn.kill] at hx
    split at hx
    · cases hx
    · exact hx⟩

theorem Sim.kill {r : Rn} {W : CW} {w : World} (hs : Sim r W w) (b : Nat) (hb0 : b < W.next) : Sim (r.kill b) (W.put b .dead) w ∧ Mv r w [.all b] (r.kill b) w := by
  have hget : ∀ j, (W.put b .dead).get j = if j = b then some .dead else W.get j := fun j => CW.get_put W b j .dead
  have hfresh : ∀ j, (W.put b .dead).next ≤ j → (W.put b .dead).get j = none := by
    intro j hj
    simp at hj
    rw [hget, if_neg (by omega)]
    exact hs.fresh j hj
  have hhere : ∀ j, (r.kill b).has j → (W.put b .dead).get j ≠ none := by
    intro j hj
    rw [hget]
    split
    · simp
    · exact hs.here j hj
  refine ⟨⟨hs.n, fun b' p hp => ?_, fun b' ob' hb hg => ?_, fun b1 b2 p1 p2 h1 h2 h3 => ?_, hfresh, hhere⟩, ⟨r.later_kill b, Nat.le_refl _, fun _ _ _ => rfl, fun b' hb p hp => ?_, Stays.refl w⟩⟩
  · simp only [Rn.kill] at hp
    split at hp
    · cases hp
    · rename_i e
      obtain ⟨h1, ob', h2, h3⟩ := hs.obj b' p hp
      exact ⟨h1, ob', by rw [hget, if_neg e]; exact h2, h3.mono (r.later_kill b)⟩
  · rw [hget] at hg
    split at hg
    · cases hg; exact .inl rfl
    · rename_i e
      rcases hs.tot b' ob' hb hg with h1 | ⟨x, h1⟩
      · exact .inl h1
      · exact .inr ⟨x, by simp only [Rn.kill]; rw [if_neg e]; exact h1⟩
  · simp only [Rn.kill] at h1 h2
    split at h1
    · cases h1
    · rename_i e1
      split at h2
      · cases h2
      · rename_i e2
        rcases hs.inj b1 b2 p1 p2 h1 h2 h3 with h4 | ⟨⟨c1, h4⟩, ⟨c2, h5⟩⟩
        · exact .inl h4
        · exact .inr ⟨⟨c1, by rw [hget, if_neg e1]; exact h4⟩, ⟨c2, by rw [hget, if_neg e2]; exact h5⟩⟩
  · simp only [Rn.kill] at hp
    split at hp
    · cases hp
    · rw [hs.none_ge b' hb] at hp; cases hp

/-- A new block in the place of an old one: what an append in place comes to. -/
theorem Sim.move {r : Rn} {W : CW} {w w' : World} (hs : Sim r W w) {b : Nat} {p q : Pl} {ob : CObj} (hp : r.f b = some p) (hown : ¬ RO W b) (hq : q.blk = p.blk)
    (hob : ObjR ((r.kill b).push q) ob (w'.heap[p.blk]?) q) (hoth : ∀ x, x ≠ p.blk → w'.heap[x]? = w.heap[x]?) (hsz : w'.heap.size = w.heap.size) (hR : Stays w w') :
    Sim ((r.kill b).push q) ((W.put b .dead).push ob) w' ∧ Mv r w [.all b] ((r.kill b).push q) w' := by
  have hb : r.has b := (hs.obj b p hp).1
  have hbN := r.lt b hb
  have hlat : Later r ((r.kill b).push q) := (r.later_kill b).trans ((r.kill b).later_push q)
  have hget : ∀ j, ((W.put b .dead).push ob).get j = if j = W.next then some ob else if j = b then some .dead else W.get j := fun j => by
    rw [CW.get_push, CW.get_put]; rfl
  have hf : ∀ j, ((r.kill b).push q).f j = if j = r.N then some q else if j = b then none else r.f j := fun j => rfl
  have hfresh : ∀ j, ((W.put b .dead).push ob).next ≤ j → ((W.put b .dead).push ob).get j = none := by
    intro j hj
    simp at hj
    have := hs.n
    rw [hget, if_neg (by omega), if_neg (by omega)]
    exact hs.fresh j (by omega)
  have hhere : ∀ j, ((r.kill b).push q).has j → ((W.put b .dead).push ob).get j ≠ none := by
    intro j hj
    rw [hget]
    split
    · simp
    · split
      · simp
      · rename_i e _
        exact hj.elim (fun h => absurd (h.trans hs.n) e) (hs.here j)
  refine ⟨⟨by simp [Rn.push, Rn.kill, hs.n], fun b' p' hp' => ?_, fun b' ob' hb' hg => ?_, fun b1 b2 p1 p2 h1 h2 h3 => ?_, hfresh, hhere⟩, ⟨hlat, by omega, fun blk hblk hno => ?_, fun b' hb' p' hp' => ?_, hR⟩⟩
  · rw [hf] at hp'
    split at hp'
    · rename_i e; cases hp'
      refine ⟨.inl e, ob, by rw [hget, if_pos (by rw [e, hs.n])], by rw [hq]; exact hob⟩
    · rename_i e
      split at hp'
      · cases hp'
      · rename_i e2
        obtain ⟨h1, ob', h2, h3⟩ := hs.obj b' p' hp'
        refine ⟨.inr h1, ob', by rw [hget, if_neg (by rw [← hs.n]; exact e), if_neg e2]; exact h2, ?_⟩
        rw [hoth]
        · exact h3.mono hlat
        · intro e3
          rcases hs.inj b' b p' p hp' hp e3 with h4 | h4
          · exact e2 h4
          · exact hown h4.2
  · rw [hget] at hg
    split at hg
    · rename_i e; exact .inr ⟨q, by rw [hf, if_pos (by rw [e, hs.n])]⟩
    · rename_i e
      split at hg
      · cases hg; exact .inl rfl
      · rename_i e2
        have hb2 : r.has b' := hb'.elim (fun e3 => absurd (e3.trans hs.n) e) (fun e3 => e3)
        rcases hs.tot b' ob' hb2 hg with h1 | ⟨x, h1⟩
        · exact .inl h1
        · exact .inr ⟨x, by rw [hf, if_neg (by rw [hs.n]; exact e), if_neg e2]; exact h1⟩
  · rw [hf] at h1 h2
    have excl : ∀ j pj, j ≠ b → r.f j = some pj → pj.blk ≠ p.blk := by
      intro j pj hj hpj e3
      rcases hs.inj j b pj p hpj hp e3 with h4 | h4
      · exact hj h4
      · exact hown h4.2
    split at h1
    · rename_i e1; cases h1
      split at h2
      · rename_i e2; exact .inl (e1.trans e2.symm)
      · split at h2
        · cases h2
        · rename_i e2; exact absurd (h3.symm.trans hq) (excl b2 p2 e2 h2)
    · rename_i e1
      split at h1
      · cases h1
      · rename_i e1'
        split at h2
        · cases h2; exact absurd (h3.trans hq) (excl b1 p1 e1' h1)
        · rename_i e2
          split at h2
          · cases h2
          · rename_i e2'
            rcases hs.inj b1 b2 p1 p2 h1 h2 h3 with h4 | ⟨⟨c1, h4⟩, ⟨c2, h5⟩⟩
            · exact .inl h4
            · refine .inr ⟨⟨c1, ?_⟩, ⟨c2, ?_⟩⟩
              · rw [hget, if_neg (by rw [← hs.n]; exact e1), if_neg e1']; exact h4
              · rw [hget, if_neg (by rw [← hs.n]; exact e2), if_neg e2']; exact h5
  · exact hoth blk fun e1 => hno b p hb hp e1.symm ⟨.all b, by simp, rfl⟩
  · rw [hf] at hp'
    split at hp'
    · cases hp'
      refine .inr ⟨b, p, hb, hp, hq.symm, ⟨.all b, by simp, rfl⟩, ?_⟩
      rw [hf, if_neg (by omega), if_pos rfl]
    · split at hp'
      · cases hp'
      · rw [hs.none_ge b' hb'] at hp'; cases hp'

end Go.Can
