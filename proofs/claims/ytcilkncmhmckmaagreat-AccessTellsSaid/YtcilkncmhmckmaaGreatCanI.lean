/-
  The canonical semantics: append; and all operations that write, put together.
-/
import Derived.Test.YtcilkncmhmckmaaGreatCanH
namespace Go.Can
open Go
set_option linter.all false

section
variable {P : Program} {r : Rn} {N : Nat} {a : CAct} {act : Act} {W : CW} {w : World} (hs : Sim r W w)
include hs

/-- A row that an append made, in a new block. -/
theorem grown_sim {r0 : Rn} {W0 : CW} (hs0 : Sim r0 W0 w) {e : TypeId} {z : Value} {size sLen n cap : Nat} {olds news olds' news' : List Value} (h1 : VRL r0 olds olds') (h2 : VRL r0 news news')
    (ho : olds'.length = sLen * size) (hn : news'.length = n * size) (hz : z.cells.size = size) (hcap : sLen + n ≤ cap) :
    ∃ r' v', v' = .slice (some ⟨w.heap.size, 0, none⟩) (sLen + n) cap ∧
      VR r' (.slice (some ⟨W0.next, 0, some (2 + size)⟩) (sLen + n) (sLen + n)) v' ∧
      Sim r' (W0.push (.row (olds ++ news) true)) (w.drew.alloc (.cells (olds'.toArray ++ (news'.toArray ++ Builtin.zeroCells z.cells (cap - (sLen + n)))) e)) ∧
      Mv r0 w [] r' (w.drew.alloc (.cells (olds'.toArray ++ (news'.toArray ++ Builtin.zeroCells z.cells (cap - (sLen + n)))) e)) := by
  have hd : Sim r0 W0 w.drew := hs0.drew
  have hsize : (olds'.toArray ++ (news'.toArray ++ Builtin.zeroCells z.cells (cap - (sLen + n)))).size = cap * size := by
    simp [zeroCells_size hs, ho, hn, hz]
    rw [← Nat.add_mul, ← Nat.add_mul]
    congr 1; omega
  have hrow : RowR r0 (olds ++ news) true (.cells (olds'.toArray ++ (news'.toArray ++ Builtin.zeroCells z.cells (cap - (sLen + n)))) e) ⟨w.drew.heap.size, 0, cap * size⟩ := by
    refine ⟨_, e, (0, 0), rfl, fun i v hv => ?_, fun _ => ⟨rfl, by rw [hsize]; simp⟩⟩
    obtain ⟨v', g1, g2⟩ := (h1.append h2).get hv
    refine ⟨v', ?_, g2⟩
    have hi : i < (olds' ++ news').length := (List.getElem?_eq_some_iff.1 g1).1
    have : (olds'.toArray ++ (news'.toArray ++ Builtin.zeroCells z.cells (cap - (sLen + n))))[i]? = (olds' ++ news')[i]? := by
      rw [← Array.append_assoc, Array.getElem?_append]
      rw [if_pos (by simpa using hi)]
      simp
    simp only [Nat.zero_add]
    rw [this]; exact g1
  obtain ⟨s1, s2⟩ := hd.push (ob := .row (olds ++ news) true) (tot := cap * size) (show ObjR _ (.row (olds ++ news) true) (some _) _ from RowR.mono (r0.later_push _) hrow) (fun _ h => by cases h)
  refine ⟨_, _, rfl, ?_, s1, ⟨s2.later, s2.size, s2.fr, s2.new, s2.rest⟩⟩
  refine .slc _ _ _ _ _ _ _ (.inl hs0.n.symm) (Nat.le_refl _) hcap (by simp; omega) fun q hq => ?_
  have : q = ⟨w.heap.size, 0, cap * size⟩ := by
    simp only [Rn.push] at hq
    rw [if_pos hs0.n.symm] at hq
    cases hq; rfl
  subst this
  exact ⟨rfl, rfl, fun _ => rfl, fun sz hsz => by simp at hsz; subst hsz; simp⟩

theorem app_sim {t u ty e ue : TypeId} {i : TypeInfo} {z : Value} (ht : P.underlying t = some (.slice e)) (hu : P.underlying u = some (.slice ue)) (hi : P.info? e = some i) (hz : zeroC P e = some z) (hsz : 0 < i.size)
    {sv xv sv' xv' : Value} (hS : VR r sv sv') (hX : VR r xv xv') {v : Value} {W' : CW} (hv : capp i.size i.bytes sv xv W = some (v, W')) :
    ∃ r' nl v' w', (Builtin.append_ #[t, u] ty #[sv', xv']).run P w = .ok v' w' ∧ VR r' v v' ∧ Sim r' W' w' ∧ W'.log = nl ++ W.log ∧ Mv r w nl r' w' := by
  obtain ⟨iz, z1, z2, z3, z4⟩ := zeroC_spec hz
  rw [hi] at z1; cases z1
  have hzs : z.cells.size = i.size := by rw [← z4, cells_eq]; simp
  unfold capp at hv
  split at hv
  · rename_i base sLen sCap n new hsrc
    obtain ⟨⟨q2, k2, c2, rfl, rfl⟩, hn0, news', g1, g2, g3⟩ := srcRow_sim (P := P) hs hX hsrc
    split at hv
    · rename_i hbd
      split at hv
      · rename_i hz0
        subst hz0
        split at hv
        · rename_i hle; cases hv
          have hnil : news' = [] := by have := g1.1; rw [hn0 rfl] at this; simpa using this.symm
          subst hnil
          cases hS with
          | nils =>
            have hf := g3 w rfl
            exact ⟨r, [], _, w, by simp [Builtin.append_, run_underlying ht, run_underlying hu, sizeOf, typeInfo, hi, Builtin.lenOf, hf], .nils, hs, rfl, Mv.refl hs.none_ge⟩
          | slc b off sp _ _ ad c' hb hnc hcc he hh =>
            refine ⟨r, [], _, w, run_append_room hs ht hu hi g3 (by omega) (by simp [storeCells]), ?_, hs, rfl, Mv.refl hs.none_ge⟩
            exact .slc b off sp _ _ ad c' hb hnc hcc he hh
        · cases hv
      · rename_i hz0
        split at hv
        · -- no base
          split at hv
          · rename_i hc; cases hv
            obtain ⟨rfl, rfl⟩ := hc
            cases hS
            have hrun := run_append hs (P := P) (ty := ty) (q := none) (sLen := 0) (sCap := 0) (olds := []) ht hu hi z2 (fun w2 _ => by simp [Builtin.firstCells]) g3 (by omega) hbd.1 hbd.2
            obtain ⟨r', v', e1, e2, e3, e4⟩ := grown_sim hs hs (e := e) (z := z) (sLen := 0) (olds := []) (olds' := []) (VRL.nil r) g1 (by simp) g2 hzs (le_grownCap hs w (0 + k2) 0 e)
            have e2' : VR r' (.slice (some ⟨W.next, 0, some (2 + i.size)⟩) k2 k2) v' := by simpa only [Nat.zero_add] using e2
            exact ⟨r', [], v', _, by rw [hrun, e1], e2', by simpa only [List.nil_append] using e3, rfl, e4⟩
          · cases hv
        · rename_i b off sp
          split at hv
          · rename_i cs own hg
            split at hv
            · -- there is room
              rename_i hroom
              split at hv
              · rename_i hown
                split at hv
                · rename_i cs' hput; cases hv
                  obtain ⟨rfl, hone⟩ := hown
                  cases hS with
                  | slc _ _ _ _ _ ad c' hb hnc hcc he hh =>
                    obtain ⟨p, w', k1, k3, k4, k5⟩ := write_row (P := P) hs hb hg hput g1 hone (k2 * i.size)
                    obtain ⟨m1, m2, m3, m4⟩ := hh p k1
                    have m5 := m3 (by omega)
                    have had : ad.add (sLen * i.size) = ⟨p.blk, p.off + (off + sLen * i.size), none⟩ := by rw [add_block m1 m2 m5, Nat.add_assoc]
                    refine ⟨r, _, _, w', run_append_room hs ht hu hi g3 (by omega) (by rw [had]; exact k3), ?_, k4, rfl, k5⟩
                    exact .slc b off sp _ _ ad c' hb (by omega) hcc he hh
                · cases hv
              · cases hv
            · rename_i hroom
              split at hv
              · cases hv
              · rename_i old hcut
                cases hS with
                | slc _ _ _ _ _ ad c' hb hnc hcc he hh =>
                  obtain ⟨p, hp, hob⟩ := hs.place hb hg (by simp)
                  obtain ⟨m1, m2, m3, m4⟩ := hh p hp
                  have holds : ∃ olds', VRL r old olds' ∧ olds'.length = sLen * i.size ∧ ∀ w2 : World, w2.heap = w.heap → (Builtin.firstCells i.size sLen (.slice (some ad) sLen c')).run P w2 = .ok olds'.toArray w2 := by
                    by_cases h0 : sLen = 0
                    · subst h0
                      rw [Nat.zero_mul] at hcut
                      rw [cut_zero hs hcut]
                      exact ⟨[], VRL.nil r, by simp, fun w2 _ => by simp [Builtin.firstCells, loadCells, loadCellsFrom]⟩
                    · exact firstCells_sim (P := P) hs (VR.slc b off sp sLen sCap ad c' hb hnc hcc he hh) hg hcut (Nat.le_refl _) (by omega)
                  obtain ⟨olds', o1, o2, o3⟩ := holds
                  split at hv
                  · rename_i hsp; cases hv
                    have hcc' := he hsp
                    subst hcc'
                    have hrun := run_append hs (P := P) (ty := ty) (q := some ad) (sLen := sLen) (sCap := sCap) ht hu hi z2 o3 g3 (by omega) hbd.1 hbd.2
                    obtain ⟨r', v', e1, e2, e3, e4⟩ := grown_sim hs hs (e := e) (z := z) o1 g1 o2 g2 hzs (le_grownCap hs w (sLen + k2) sCap e)
                    exact ⟨r', [], v', _, by rw [hrun, e1], e2, e3, rfl, e4⟩
                  · split at hv
                    · rename_i hsp hcond; cases hv
                      obtain ⟨rfl, hsp2, hone⟩ := hcond
                      by_cases hfit : sLen + k2 ≤ c'
                      · -- in place, in the model
                        cases hh' : w.heap[p.blk]? with
                        | none => rw [hh'] at hob; exact hob.elim
                        | some O =>
                          rw [hh'] at hob
                          obtain ⟨c, ee, fr, rfl, q1, q2⟩ := (hob : RowR r cs true O p)
                          obtain ⟨rfl, q3⟩ := q2 rfl
                          have q4 := m4 i.size hsp2
                          have q5 : (sLen + k2) * i.size ≤ c' * i.size := Nat.mul_le_mul_right _ hfit
                          have q6 : sLen * i.size + k2 * i.size = (sLen + k2) * i.size := (Nat.add_mul _ _ _).symm
                          obtain ⟨w', s1, s2, sR, s3, cc, s4, s5, s6⟩ := run_storeCells (P := P) news' 0 w c ee p.blk (ad.off + sLen * i.size) hh' (g1.all_one hone) (by omega)
                          have had : ad.add (sLen * i.size) = ⟨p.blk, ad.off + sLen * i.size, none⟩ := add_block m1 m2 rfl _
                          have hrun := run_append_room hs (P := P) (ty := ty) (ad := ad) ht hu hi g3 hfit (w' := w') (by rw [had]; exact s1)
                          have hlat : Later r ((r.kill b).push ⟨p.blk, ad.off, p.off + p.tot - ad.off⟩) := (r.later_kill b).trans ((r.kill b).later_push _)
                          have hoffs : 0 < sLen → ad.off = p.off + off := fun h0 => m3 (by omega)
                          have hrow : RowR r (old ++ new) true (.cells cc ee (0, 0)) ⟨p.blk, ad.off, p.off + p.tot - ad.off⟩ := by
                            refine ⟨cc, ee, (0, 0), rfl, fun j vj hj => ?_, fun _ => ⟨rfl, by simp only; omega⟩⟩
                            have hol : old.length = sLen * i.size := (cut_eq hcut).2
                            rw [List.getElem?_append] at hj
                            split at hj
                            · rename_i hjl
                              have hpos : 0 < sLen := by
                                rcases Nat.eq_zero_or_pos sLen with h0 | h0
                                · subst h0; simp at hol; rw [hol] at hjl; simp at hjl
                                · exact h0
                              have hcs : cs[off + j]? = some vj := by
                                rw [(cut_eq hcut).1, List.getElem?_take, if_pos (by omega), List.getElem?_drop] at hj
                                exact hj
                              obtain ⟨v', t1, t2⟩ := q1 _ _ hcs
                              refine ⟨v', ?_, t2⟩
                              simp only
                              rw [s6, if_neg (by omega), hoffs hpos, Nat.add_assoc]
                              exact t1
                            · rename_i hjl
                              obtain ⟨v', t1, t2⟩ := g1.get hj
                              refine ⟨v', ?_, t2⟩
                              have t3 := (List.getElem?_eq_some_iff.1 t1).1
                              simp only
                              rw [s6, if_pos (by omega), show ad.off + j - (ad.off + sLen * i.size + 0) = j - old.length by omega]
                              exact t1
                          obtain ⟨u1, u2⟩ := hs.move (q := ⟨p.blk, ad.off, p.off + p.tot - ad.off⟩) (ob := .row (old ++ new) true) (w' := w') hp (not_RO hg) rfl (by rw [s4]; exact RowR.mono hlat hrow) s3 s2 sR
                          refine ⟨_, [.all b], _, w', hrun, ?_, u1, rfl, u2⟩
                          refine .slc _ _ _ _ _ _ _ (.inl hs.n.symm) (Nat.le_refl _) (by omega) (by simp; omega) fun q hq => ?_
                          have : q = ⟨p.blk, ad.off, p.off + p.tot - ad.off⟩ := by
                            simp [Rn.push, Rn.kill, hs.n] at hq
                            exact hq.symm
                          subst this
                          refine ⟨m1, m2, fun _ => rfl, fun sz hsz2 => ?_⟩
                          simp at hsz2
                          subst hsz2
                          simp only; omega
                      · -- a new array, in the model
                        have hrun := run_append hs (P := P) (ty := ty) (q := some ad) (sLen := sLen) (sCap := c') ht hu hi z2 o3 g3 (by omega) hbd.1 hbd.2
                        obtain ⟨y1, y2⟩ := hs.kill b (by rw [← hs.n]; exact r.lt b hb)
                        obtain ⟨r', v', e1, e2, e3, e4⟩ := grown_sim y1 y1 (e := e) (z := z) (o1.mono (r.later_kill b)) (g1.mono (r.later_kill b)) o2 g2 hzs (le_grownCap hs w (sLen + k2) c' e)
                        exact ⟨r', [.all b], v', _, by rw [hrun, e1], e2, e3, rfl, by simpa using y2.trans e4⟩
                    · cases hv
          · cases hv
    · cases hv
  · cases hv

end

end Go.Can
