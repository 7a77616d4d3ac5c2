/-
  The canonical semantics: regions whose order is drawn, done.
-/
import Derived.Test.YtcilkncmhmckmaaGreatCanP
namespace Go.Can
open Go
set_option linter.all false

def cnt (f : Nat → Bool) : Nat → Nat
  | 0 => 0
  | k + 1 => cnt f k + (if f k then 1 else 0)

theorem cnt_le (f : Nat → Bool) : ∀ n, cnt f n ≤ n
  | 0 => Nat.le_refl _
  | n + 1 => by have := cnt_le f n; simp only [cnt]; split <;> omega

theorem cnt_full (f : Nat → Bool) : ∀ n, cnt f n = n → ∀ i, i < n → f i = true
  | 0, _, i, hi => by omega
  | n + 1, h, i, hi => by
    have := cnt_le f n
    simp only [cnt] at h
    split at h
    · rename_i hf
      rcases Nat.lt_or_ge i n with h2 | h2
      · exact cnt_full f n (by omega) i h2
      · have : i = n := by omega
        subst this; exact hf
    · omega

theorem cnt_same {f g : Nat → Bool} : ∀ n, (∀ i, i < n → f i = g i) → cnt f n = cnt g n
  | 0, _ => rfl
  | n + 1, h => by simp only [cnt]; rw [cnt_same n fun i hi => h i (by omega), h n (by omega)]

theorem cnt_set {f g : Nat → Bool} {j : Nat} (hf : f j = false) (hg : ∀ i, g i = if i = j then true else f i) : ∀ n, j < n → cnt g n = cnt f n + 1
  | 0, h => by omega
  | n + 1, h => by
    simp only [cnt]
    rcases Nat.lt_or_ge j n with h2 | h2
    · have e := hg n
      rw [if_neg (fun e2 : n = j => by omega)] at e
      rw [cnt_set hf hg n h2, e]; omega
    · have : j = n := by omega
      subst this
      rw [hg j, if_pos rfl, hf, cnt_same (f := g) (g := f) j fun i hi => by rw [hg, if_neg (fun e2 : i = j => by omega)]]
      simp

section
variable {P : Program} {call : CCall} (hcall : CallSim P call) {N : Nat} {ops : Array Oper} {base : Nat} {l : List RStep} {aT : Nat → CAct} {WT : Nat → CW} {vT : Nat → Value} {rT : Nat → Rec} (X : Txt P call N ops base l aT WT vT rT)
  {r0 : Rn} {W0 : CW} {w0 : World} {Q : Exit → Act → World → Prop}
include hcall X

theorem Txt.inv_step {S : Nat → Prop} {act : Act} {w : World} (hI : Inv P N base l aT WT vT rT r0 W0 w0 S act w) {j : Nat} (hjl : j < l.length) (hj : ¬ S j) (hrd : ∀ i, Pr l j i → S i) :
    wpOp P ops Q j (Inv P N base l aT WT vT rT r0 W0 w0 (fun t => t = j ∨ S t)) act w := by
  obtain ⟨hlt, hcl, r, W, a, m, nl, hs, ha, hfr, H, hlog, hmv⟩ := hI
  obtain ⟨s, hsl⟩ : ∃ s, l[j]? = some s := ⟨l[j], by simp [hjl]⟩
  obtain ⟨o, ho, hso⟩ := X.D.at_ j s hsl
  have eA := X.look hsl hj hrd hcl hfr
  have haA : AR r N (sub (aT j) s.look) act := by rw [← eA]; exact ha.sub _
  have hlt' : ∀ t, (t = j ∨ S t) → t < l.length := fun t ht => ht.elim (fun e => e ▸ hjl) (hlt t)
  have hcl' : ∀ t, (t = j ∨ S t) → ∀ i, Pr l t i → (i = j ∨ S i) := fun t ht i hp => .inr (ht.elim (fun e => hrd i (e ▸ hp)) (fun e => hcl t e i hp))
  have done : ∀ r' W' w' v' m' nl', VR r' (vT j) v' → Later r r' → Sim r' W' w' → Hp base l WT rT (fun t => t = j ∨ S t) W' m' → W'.log = nl' ++ W0.log → Mv r0 w0 nl' r' w' →
      Inv P N base l aT WT vT rT r0 W0 w0 (fun t => t = j ∨ S t) (act.put o.dst v') w' := by
    intro r' W' w' v' m' nl' h1 h2 h3 h4 h5 h6
    refine ⟨hlt', hcl', r', W', putd a s.dst (vT j), m', nl', h3, ?_, Fr.put X.D hsl hj hcl hfr, h4, h5, h6⟩
    rw [hso.dst]
    exact (ha.mono h2).put hso.ok h1
  unfold wpOp
  simp only [ho]
  have ds := X.T.ds j s hsl
  generalize hv : vT j = v at ds
  generalize hW : WT (j + 1) = W' at ds
  generalize hrc : rT j = rc at ds
  have hquiet : ∀ rc', rT j = rc' → (∀ lg, rc' ≠ .x lg) → (∀ b, rc' ≠ .a b) → Hp base l WT rT (fun t => t = j ∨ S t) W m := fun rc' e1 e2 e3 =>
    H.quiet X (fun ⟨lg, h⟩ => e2 lg (e1.symm.trans h)) (fun h => e3 _ (e1.symm.trans h)) hj
  cases ds with
  | skip h =>
    rw [if_neg (by rw [wanted_sim (P := P) haA hso.guard h]; simp)]
    exact done r W w undef m nl (by rw [hv]; exact VR.undef r) (Later.refl r) hs (hquiet _ hrc (fun lg h => by cases h) (fun b h => by cases h)) hlog hmv
  | pure o1 v h h1 h2 =>
    rw [if_pos (wanted_sim (P := P) haA hso.guard h)]
    left
    refine doOp_sim hcall (x := .p o1) (by rw [hso.op, h1]) hs haA (v := v) (W' := W) (by simp only [doOp, h2]) fun r' nl' v' w' g1 g2 g3 g4 => ?_
    exact done r' W w' v' m (nl' ++ nl) (by rw [hv]; exact g1) g4.later g2 (hquiet _ hrc (fun lg h => by cases h) (fun b h => by cases h)) (by rw [g3, hlog, List.append_assoc]) (hmv.trans g4)
  | nil o1 v h h1 h2 =>
    rw [if_pos (wanted_sim (P := P) haA hso.guard h)]
    left
    refine doOp_sim hcall (x := .l o1) (by rw [hso.op, h1]) hs haA (v := v) (W' := W) (by simp only [doOp, lop, h2]) fun r' nl' v' w' g1 g2 g3 g4 => ?_
    exact done r' W w' v' m (nl' ++ nl) (by rw [hv]; exact g1) g4.later g2 (hquiet _ hrc (fun lg h => by cases h) (fun b h => by cases h)) (by rw [g3, hlog, List.append_assoc]) (hmv.trans g4)
  | read o1 b lo hi ob v h h1 h2 h3 h4 h5 h7 =>
    rw [if_pos (wanted_sim (P := P) haA hso.guard h)]
    left
    have hb : b < W.next := by rw [← hs.n]; exact r.lt b (ltarget_has haA o o1 (by rw [hso.op, h1]) h2)
    have hag := (X.hp_read H hlt hcl hj hrd hsl h3 hb).1 lo hi h7 hrc
    obtain ⟨ob', g5, g6⟩ := lval_AG X h4 h5 hag
    refine doOp_sim hcall (x := .l o1) (by rw [hso.op, h1]) hs haA (v := v) (W' := W) (by simp only [doOp, lop, h2, g5, g6]) fun r' nl' v' w' g1 g2 g3 g4 => ?_
    exact done r' W w' v' m (nl' ++ nl) (by rw [hv]; exact g1) g4.later g2 (hquiet _ hrc (fun lg h => by cases h) (fun b h => by cases h)) (by rw [g3, hlog, List.append_assoc]) (hmv.trans g4)
  | readM o1 b ob v h h1 h2 h3 h4 h5 h7 =>
    rw [if_pos (wanted_sim (P := P) haA hso.guard h)]
    left
    have hb : b < W.next := by rw [← hs.n]; exact r.lt b (ltarget_has haA o o1 (by rw [hso.op, h1]) h2)
    have hag := (X.hp_read H hlt hcl hj hrd hsl h3 hb).2 h7 hrc
    refine doOp_sim hcall (x := .l o1) (by rw [hso.op, h1]) hs haA (v := v) (W' := W) (by simp only [doOp, lop, h2, hag, h4]) fun r' nl' v' w' g1 g2 g3 g4 => ?_
    exact done r' W w' v' m (nl' ++ nl) (by rw [hv]; exact g1) g4.later g2 (hquiet _ hrc (fun lg h => by cases h) (fun b h => by cases h)) (by rw [g3, hlog, List.append_assoc]) (hmv.trans g4)
  | make o1 ob h h1 h2 =>
    rw [recsT_length] at *
    rw [if_pos (wanted_sim (P := P) haA hso.guard h)]
    left
    have hn0 := X.n0
    have hnm := (X.next_mono m (Nat.zero_le _) H.le).1
    have hnone : W.get (base + j) = none := H.none j hjl fun h => hj h.1
    have hnb : ¬ r.has (base + j) := fun h => hs.here _ h hnone
    have hbn : base + j < W.next := by rw [H.next]; omega
    obtain ⟨O, v', g1, g2, g3, g4⟩ := aop_sim haA w o o1 (by rw [hso.op, h1]) h2 (r1 := r.bear (base + j) ⟨w.heap.size, 0, 0⟩) (bn := base + j) (r.later_bear _ hnb) (.inl ⟨rfl, by rw [hs.n]; exact hbn⟩)
      (fun q hq => by simp [Rn.bear] at hq; exact hq.symm)
    obtain ⟨g5, g6⟩ := hs.bear (W' := W.bear (base + j) ob) hbn hnb g2 rfl (fun b => CW.get_bear _ _ _ _) g4
    unfold Oper.wp
    rw [g1]
    refine done _ _ _ v' m ([] ++ nl) (by rw [hv]; exact g3) g6.later g5 ?_ (by simpa using hlog) (hmv.trans g6)
    exact X.hp_make H hlt hcl hjl hj hrc (by rw [hW, CW.get_bear, if_pos rfl])
  | act o1 v W1 h h1 h2 h3 =>
    rw [if_pos (wanted_sim (P := P) haA hso.guard h)]
    left
    obtain ⟨U', g1, g2, g3⟩ := X.hp_act H hs.fresh hlt hcl hj hrd hsl ⟨_, hrc⟩ (by rw [hv]; exact h2) hW
    have hs' : Sim r (W.relog []) w := hs.congr rfl (fun b => rfl)
    refine doX_sim hcall (x := o1) (by rw [hso.op, h1]) hs' haA g1 fun r' nl' v' w' k1 k2 k3 k4 => ?_
    have e1 : nl' = W1.log := by rw [← g2, k3]; simp
    subst e1
    exact done r' (U'.relog (W1.log ++ W.log)) w' v' (j + 1) (W1.log ++ nl) k1 k4.later (k2.congr rfl fun b => rfl) g3 (by simp [hlog]) (hmv.trans k4)

theorem Txt.inv_any (hQ : ∀ r' nl act' w', Sim r' (WT l.length) w' → AR r' N (aT l.length) act' → (WT l.length).log = nl ++ W0.log → Mv r0 w0 nl r' w' → Q .normal act' w') :
    ∀ (fuel : Nat) (listed : Array Bool) (act : Act) (w : World), listed.size = l.length → fuel + cnt (fun i => listed.getD i false) l.length = l.length →
      Inv P N base l aT WT vT rT r0 W0 w0 (fun t => listed.getD t false = true) act w → wpAny P .any ops Q fuel listed act w := by
  have hfin : ∀ (listed : Array Bool) (act : Act) (w : World), listed.size = l.length → Region.ready .any ops listed = [] →
      Inv P N base l aT WT vT rT r0 W0 w0 (fun t => listed.getD t false = true) act w → Q .normal act w := by
    intro listed act w hsz hr hI
    obtain ⟨hlt, hcl, r, W, a, m, nl, hs, ha, hfr, H, hlog, hmv⟩ := hI
    have hall : ∀ t, t < l.length → listed.getD t false = true := by
      intro t
      induction t using Nat.strongRecOn with
      | _ t ih =>
        intro ht
        by_cases hc : listed.getD t false = true
        · exact hc
        · have hin : t ∈ Region.ready .any ops listed := by
            rw [mem_ready]
            have hts : t < ops.size := by rw [← X.D.len]; exact ht
            refine ⟨?_, ops[t], by simp [hts], fun e he hb => ?_⟩
            · have : t < listed.size := by omega
              simp [this] at hc ⊢; exact hc
            · have := X.D.back t ops[t] (by simp [hts]) e he hb
              exact ih e.on this (by omega)
          rw [hr] at hin
          simp at hin
    have hle := H.le
    have hno : ∀ t, m ≤ t → t < l.length → ¬ isX rT t := fun t h1 h2 h3 => by have := H.lt t (hall t h2) h3; omega
    obtain ⟨st1, st2, st3⟩ := X.still l.length (p := m) hle (Nat.le_refl _) hno
    have hget : ∀ b, (WT l.length).get b = W.get b := by
      intro b
      by_cases hres : b < base ∨ base + l.length ≤ b
      · rw [H.far b hres]; exact st3 b fun i h1 h2 => by omega
      · obtain ⟨i, hi, rfl⟩ : ∃ i, i < l.length ∧ b = base + i := ⟨b - base, by omega, by omega⟩
        by_cases hai : isA rT base i
        · rw [H.near i hi (hall i hi) hai]
          exact (X.still l.length (p := max m (i + 1)) (by omega) (Nat.le_refl _) (fun t h1 h2 => hno t (by omega) h2)).2.2 _ fun i' h1 h2 => by omega
        · rw [H.none i hi fun h => hai h.2]
          exact X.unborn l.length (Nat.le_refl _) i hi (.inr hai)
    have hs' : Sim r (WT l.length) w := hs.congr (by rw [st1, H.next]) hget
    have ha' : AR r N (aT l.length) act := ⟨ha.size, ha.defers, fun t v hv => by
      have e := Fr.unique (hfr t) (Fr.text X l.length (Nat.le_refl _) t) fun t' s hs1 _ => ⟨fun _ => (List.getElem?_eq_some_iff.1 hs1).1, fun h => hall t' h⟩
      exact ha.tmp t v (by rw [e]; exact hv)⟩
    exact hQ r nl act w hs' ha' (by rw [st2, ← H.log, hlog]) hmv
  intro fuel
  induction fuel with
  | zero =>
    intro listed act w hsz hc hI
    have hr : Region.ready .any ops listed = [] := by
      cases hq : Region.ready .any ops listed with
      | nil => rfl
      | cons j js =>
        have hin : j ∈ Region.ready .any ops listed := by rw [hq]; simp
        rw [mem_ready] at hin
        obtain ⟨h1, o, h2, _⟩ := hin
        have hjl : j < l.length := by rw [X.D.len]; exact (Array.getElem?_eq_some_iff.1 h2).1
        have := cnt_full _ _ (by rw [Nat.zero_add] at hc; exact hc) j hjl
        have hjs : j < listed.size := by omega
        simp [hjs] at h1 this
        rw [h1] at this; cases this
    exact ⟨hr, hfin listed act w hsz hr hI⟩
  | succ fuel ih =>
    intro listed act w hsz hc hI
    refine ⟨fun hr => hfin listed act w hsz hr hI, fun j hj => ?_⟩
    rw [mem_ready] at hj
    obtain ⟨h1, o, h2, h3⟩ := hj
    have hjl : j < l.length := by rw [X.D.len]; exact (Array.getElem?_eq_some_iff.1 h2).1
    have hjs : j < listed.size := by omega
    have hjf : listed.getD j false = false := by simp [hjs] at h1 ⊢; exact h1
    have hj' : ¬ (listed.getD j false = true) := by rw [hjf]; simp
    have hcl := hI.2.1
    have hrd : ∀ i, Pr l j i → listed.getD i false = true := by
      intro i hp
      obtain ⟨e, he, hb, h4 | h4⟩ := (X.D.pr j i o h2).1 hp
      · rw [h4]; exact h3 e he hb
      · exact hcl e.on (h3 e he hb) i h4
    have hset : ∀ i, (listed.setIfInBounds j true).getD i false = if i = j then true else listed.getD i false := by
      intro i
      by_cases e : i = j
      · subst e; simp [hjs]
      · rw [if_neg e]; exact getD_set_ne false (Ne.symm e)
    refine wpOp_mono (fun act' w' hI' => ?_) (X.inv_step hcall (Q := Q) hI hjl hj' hrd)
    refine ih (listed.setIfInBounds j true) act' w' (by simp [hsz]) ?_ ?_
    · rw [cnt_set (f := fun i => listed.getD i false) (g := fun i => (listed.setIfInBounds j true).getD i false) hjf hset l.length hjl]
      omega
    · have : (fun t => (listed.setIfInBounds j true).getD t false = true) = (fun t => t = j ∨ listed.getD t false = true) := by
        funext t
        apply propext
        rw [hset]
        by_cases e : t = j <;> simp [e]
      rw [this]
      exact hI'
end

theorem draw_sim {P : Program} {call : CCall} (hcall : CallSim P call) (hB : CBoth call) (hC : CFresh call) (hm : P.follows .mixedOrders = true) {N : Nat} {Q : Exit → Act → World → Prop} {id : Nat} {ops : Array Oper} {l : List RStep}
    (hreg : rregion P N ops.toList ops.toList [] = some l) (hd : drawOk ops.toList l = true) {r : Rn} {a : CAct} {act : Act} {W : CW} {w : World} {a' : CAct} {W' : CW}
    (hs : Sim r W w) (ha : AR r N a act) (hv : rdraw P call W.next l [] a (W.reserve l.length) = some (a', W'))
    (hQ : ∀ r' nl act' w', Sim r' W' w' → AR r' N a' act' → W'.log = nl ++ W.log → Mv r w nl r' w' → Q .normal act' w') : (Code.region id ops true).wp P Q act w := by
  obtain ⟨aT, WT, vT, rT, h1, h2, h3, h4, h5⟩ := trace_of _ _ _ _ _ _ hv
  have D := drawn_of hreg hd
  have X : Txt P call N ops W.next l aT WT vT rT := {
    D := D
    T := ⟨fun j s hj => by simpa using (h5 j s hj).1, fun j s hj => (h5 j s hj).2⟩
    B := hB
    C := hC
    f0 := fun b hb => by rw [h2]; exact hs.fresh b hb
    n0 := by rw [h2]; rfl }
  refine wp_region_any hm ?_
  obtain ⟨g1, g2⟩ := hs.reserve l.length
  have gd : Sim (r.reserve l.length) (W.reserve l.length) w.drew := g1.drew
  refine X.inv_any hcall (r0 := r) (W0 := W) (w0 := w) (fun r' nl act' w' k1 k2 k3 k4 => hQ r' nl act' w' (by rw [← h4]; exact k1) (by rw [← h3]; exact k2) (by rw [← h4]; exact k3) k4) ops.size (Array.replicate ops.size false) act _ (by simp [D.len]) ?_ ?_
  · have : cnt (fun i => (Array.replicate ops.size false).getD i false) l.length = 0 := by
      rw [cnt_same (g := fun _ => false) _ fun i hi => by simp [Array.getElem?_replicate]; split <;> rfl]
      generalize l.length = n
      induction n with
      | zero => rfl
      | succ n ih => simp [cnt, ih]
    rw [this, D.len]
    rfl
  · have hno : ∀ t, ¬ ((Array.replicate ops.size false).getD t false = true) := by
      intro t h
      simp [Array.getElem?_replicate] at h
      split at h <;> simp at h
    refine ⟨fun t h => absurd h (hno t), fun t h => absurd h (hno t), r.reserve l.length, W.reserve l.length, a, 0, [], gd, ha.mono (r.later_reserve _), fun d => .inr ⟨fun t s h => absurd h (hno t), by rw [h1]⟩, ?_, rfl, ⟨g2.later, g2.size, g2.fr, g2.new, g2.rest⟩⟩
    refine ⟨Nat.zero_le _, fun t h => absurd h (hno t), .inl rfl, by rw [h2], by rw [h2], fun b _ => by rw [h2], fun i _ h => absurd h (hno i), fun i hi _ => ?_⟩
    exact hs.fresh _ (Nat.le_add_right _ _)

end Go.Can
