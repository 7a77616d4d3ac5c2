/-
  The canonical semantics: regions, in the order of the text.
-/
import Derived.Test.YtcilkncmhmckmaaGreatCanL
namespace Go.Can
open Go
set_option linter.all false

/-- What a resolved step has to do with its operation. -/
structure StepOf (P : Program) (N : Nat) (all : List Oper) (o : Oper) (s : RStep) : Prop where
  dst : s.dst = o.dst
  ok : dstOk N o.dst = true
  guard : rguard all o = some s.guard
  op : rop P o.op = some s.op
  look : s.look = looks all o

theorem rregion_spec {P : Program} {N : Nat} {all : List Oper} : ∀ (ops : List Oper) (pres : List Nat) (l : List RStep), rregion P N all ops pres = some l →
    l.length = ops.length ∧ ∀ (i : Nat) (o : Oper), ops[i]? = some o → ∃ s, l[i]? = some s ∧ StepOf P N all o s ∧ s.pre = preOf (pres ++ (l.take i).map (·.pre)) o
  | [], pres, l, h => by simp only [rregion, Option.some.injEq] at h; subst h; exact ⟨rfl, fun i o h => by simp at h⟩
  | o :: ops, pres, l, h => by
    simp only [rregion] at h
    split at h
    · rename_i g r hg hr
      split at h
      · rename_i hd
        split at h
        · rename_i l' hl; cases h
          obtain ⟨h1, h2⟩ := rregion_spec ops _ _ hl
          refine ⟨by simp [h1], fun i o' ho => ?_⟩
          cases i with
          | zero =>
            simp at ho; subst ho
            exact ⟨_, rfl, ⟨rfl, hd, hg, hr, rfl⟩, by simp⟩
          | succ i =>
            obtain ⟨s, h3, h4, h5⟩ := h2 i o' (by simpa using ho)
            exact ⟨s, by simpa using h3, h4, by rw [h5]; simp⟩
        · cases h
      · cases h
    · cases h

theorem wanted_sim {P : Program} {r : Rn} {N : Nat} {a : CAct} {act : Act} (h : AR r N a act) {ops : Array Oper} {o : Oper} {g : Option (Nat × Bool)} (hg : rguard ops.toList o = some g) {b : Bool} (hw : wanted a g = some b) :
    Region.wanted o (yielded ops act.tmps) = b := by
  unfold rguard at hg
  split at hg
  · rename_i hn; cases hg
    simp only [wanted, Option.some.injEq] at hw
    subst hw
    simp [Region.wanted, hn]
  · rename_i gi want hn
    split at hg
    · rename_i og hog
      split at hg
      · rename_i d hd; cases hg
        have hog' : ops[gi]? = some og := by simpa using hog
        simp only [wanted] at hw
        split at hw
        · rename_i c hc; cases hw
          obtain ⟨v', h1, h2⟩ := h.tmp _ _ hc
          cases h2
          simp [Region.wanted, hn, yielded, hog', hd, h1]
        · rename_i vs hc; cases hw
          obtain ⟨v', h1, h2⟩ := h.tmp _ _ hc
          cases h2
          simp [Region.wanted, hn, yielded, hog', hd, h1]
        · cases hw
      · cases hg
    · cases hg

section
variable {P : Program} {call : CCall} (hcall : CallSim P call) {N : Nat} {Q : Exit → Act → World → Prop}

include hcall in
theorem rsteps_sim {ops : Array Oper} : ∀ (l : List RStep) (i : Nat) (r : Rn) (a : CAct) (act : Act) (W : CW) (w : World) (a' : CAct) (W' : CW),
    (∀ j s, l[j]? = some s → ∃ o, ops[i + j]? = some o ∧ StepOf P N ops.toList o s) → Sim r W w → AR r N a act → rsteps P call l a W = some (a', W') →
    (∀ r' nl act' w', Sim r' W' w' → AR r' N a' act' → W'.log = nl ++ W.log → Mv r w nl r' w' → Q .normal act' w') → wpOps P ops Q (List.range' i l.length) act w
  | [], i, r, a, act, W, w, a', W', hl, hs, ha, hv, hQ => by
    simp only [rsteps, Option.some.injEq, Prod.mk.injEq] at hv
    obtain ⟨rfl, rfl⟩ := hv
    exact hQ r [] act w hs ha rfl (Mv.refl hs.none_ge)
  | s :: l, i, r, a, act, W, w, a', W', hl, hs, ha, hv, hQ => by
    obtain ⟨o, ho, hso⟩ := hl 0 s rfl
    have ho' : ops[i]? = some o := ho
    have hl' : ∀ j s, l[j]? = some s → ∃ o, ops[i + 1 + j]? = some o ∧ StepOf P N ops.toList o s := fun j s hj => by
      obtain ⟨o, h1, h2⟩ := hl (j + 1) s (by simpa using hj)
      exact ⟨o, by rw [show i + 1 + j = i + (j + 1) by omega]; exact h1, h2⟩
    simp only [List.length_cons, List.range'_succ, wpOps, ho']
    simp only [rsteps] at hv
    split at hv
    · rename_i hw
      rw [if_pos (wanted_sim (P := P) ha hso.guard hw)]
      split at hv
      · rename_i v W1 h1
        refine .inl (doOp_sim hcall hso.op hs ha h1 fun r1 nl1 v1 w1 g1 g2 g3 g4 => ?_)
        have ha1 : AR r1 N (putd a s.dst v) (act.put o.dst v1) := by rw [hso.dst]; exact (ha.mono g4.later).put hso.ok g1
        refine rsteps_sim l (i + 1) r1 _ _ W1 w1 a' W' hl' g2 ha1 hv fun r' nl act' w' k1 k2 k3 k4 => ?_
        exact hQ r' (nl ++ nl1) act' w' k1 k2 (by rw [k3, g3, List.append_assoc]) (g4.trans k4)
      · cases hv
    · rename_i hw
      have := wanted_sim (P := P) ha hso.guard hw
      rw [if_neg (by simp [this])]
      have ha1 : AR r N (putd a s.dst undefV) (act.put o.dst undef) := by rw [hso.dst]; exact ha.put hso.ok (VR.undef r)
      exact rsteps_sim l (i + 1) r _ _ W w a' W' hl' hs ha1 hv hQ
    · cases hv

include hcall in
theorem region_sim {id : Nat} {ops : Array Oper} {l : List RStep} (hreg : rregion P N ops.toList ops.toList [] = some l) {r : Rn} {a : CAct} {act : Act} {W : CW} {w : World} {a' : CAct} {W' : CW}
    (hs : Sim r W w) (ha : AR r N a act) (hv : rsteps P call l a W = some (a', W'))
    (hQ : ∀ r' nl act' w', Sim r' W' w' → AR r' N a' act' → W'.log = nl ++ W.log → Mv r w nl r' w' → Q .normal act' w') : (Code.region id ops false).wp P Q act w := by
  obtain ⟨h1, h2⟩ := rregion_spec _ _ _ hreg
  refine wp_region ?_
  have := rsteps_sim (Q := Q) (ops := ops) hcall l 0 r a act W w a' W' (fun j s hj => ?_) hs ha hv hQ
  · rw [List.range_eq_range']
    rw [show ops.size = l.length by simpa using h1.symm]
    exact this
  · have hlt : j < ops.toList.length := by rw [← h1]; exact (List.getElem?_eq_some_iff.1 hj).1
    obtain ⟨s', h3, h4, _⟩ := h2 j ops.toList[j] (by simp [hlt])
    rw [hj] at h3; cases h3
    exact ⟨_, by simp at hlt; simp [hlt], h4⟩
end

end Go.Can
