/-
  Canonical code made short: a frame that holds less.
-/
import Derived.Test.YtcilkncmhmckmaaGreatCanV
namespace Go.Can
open Go
set_option linter.all false

/-- A frame that holds no more. -/
def Sub (s a : CAct) : Prop := ∀ t v, s.get t = some v → a.get t = some v

theorem Sub.refl (a : CAct) : Sub a a := fun _ _ h => h
theorem Sub.put {s a : CAct} (h : Sub s a) (d : Option Nat) (v : Value) : Sub (putd s d v) (putd a d v) := by
  cases d with
  | none => exact h
  | some d =>
    intro t u hu
    simp only [putd, Tr.get_set] at hu ⊢
    split
    · rename_i e; rw [if_pos e] at hu; exact hu
    · rename_i e; rw [if_neg e] at hu; exact h t u hu

section
variable {s a : CAct} (h : Sub s a)
include h

theorem rx_sub {x : RX} {v : Value} (hv : x.ev s = some v) : x.ev a = some v := by
  cases x with
  | t n => exact h n v hv
  | c u => exact hv

theorem evs_sub : ∀ {l : List RX} {vs : List Value}, evs s l = some vs → evs a l = some vs
  | [], vs, hv => hv
  | x :: l, vs, hv => by
    simp only [evs] at hv ⊢
    split at hv
    · rename_i v us h1 h2
      rw [rx_sub h h1, evs_sub h2]; exact hv
    · cases hv

theorem evo_sub {x : Option RX} {v : Option Value} (hv : evo s x = some v) : evo a x = some v := by
  cases x with
  | none => exact hv
  | some x =>
    simp only [evo] at hv ⊢
    split at hv
    · rename_i u h1; rw [rx_sub h h1]; exact hv
    · cases hv

theorem fill_sub : ∀ {ps : List (Nat × Nat × RX)} {z cs : List Value}, fill s z ps = some cs → fill a z ps = some cs
  | [], z, cs, hv => hv
  | (off, size, x) :: ps, z, cs, hv => by
    simp only [fill] at hv ⊢
    split at hv
    · cases hv
    · rename_i v h1
      rw [rx_sub h h1]
      simp only
      split at hv
      · rename_i hc
        rw [if_pos hc]
        split at hv
        · rename_i z' hz
          exact fill_sub hv
        · cases hv
      · cases hv

theorem pop_sub {P : Program} {o : POp} {v : Value} (hv : pop P s o = some v) : pop P a o = some v := by
  have k1 : ∀ {x : RX} {u : Value}, x.ev s = some u → x.ev a = some u := fun hh => rx_sub h hh
  cases o with
  | mv x => exact rx_sub h hv
  | pick c x y =>
    simp only [pop] at hv ⊢
    split at hv
    · rename_i t hc
      rw [k1 hc]
      simp only
      cases t with
      | true => simp at hv ⊢; exact k1 hv
      | false => simp at hv ⊢; exact k1 hv
    · cases hv
  | build z ps =>
    simp only [pop] at hv ⊢
    split at hv
    · rename_i cs hf; rw [fill_sub h hf]; exact hv
    · cases hv
  | func fn x y =>
    simp only [pop] at hv ⊢
    split at hv
    · rename_i u w hu hw; rw [evs_sub h hu, evs_sub h hw]; exact hv
    · cases hv
  | fail => cases hv
  | slc arr size x lo hi mx =>
    simp only [pop] at hv ⊢
    split at hv
    · rename_i u l hh m h1 h2 h3 h4
      rw [k1 h1, evo_sub h h2, evo_sub h h3, evo_sub h h4]; exact hv
    · cases hv
  | bin op x y => simp only [pop] at hv ⊢; split at hv; (· rename_i u w hu hw; rw [k1 hu, k1 hw]; exact hv); cases hv
  | eq k neg x y => simp only [pop] at hv ⊢; split at hv; (· rename_i u w hu hw; rw [k1 hu, k1 hw]; exact hv); cases hv
  | idx n k size x i => simp only [pop] at hv ⊢; split at hv; (· rename_i hu hw; rw [k1 hu, k1 hw]; exact hv); cases hv
  | iad arr size x i => simp only [pop] at hv ⊢; split at hv; (· rename_i hu hw; rw [k1 hu, k1 hw]; exact hv); cases hv
  | max2 x y => simp only [pop] at hv ⊢; split at hv; (· rename_i hu hw; rw [k1 hu, k1 hw]; exact hv); cases hv
  | min2 x y => simp only [pop] at hv ⊢; split at hv; (· rename_i hu hw; rw [k1 hu, k1 hw]; exact hv); cases hv
  | sidx x y => simp only [pop] at hv ⊢; split at hv; (· rename_i hu hw; rw [k1 hu, k1 hw]; exact hv); cases hv
  | nchk x =>
    simp only [pop] at hv ⊢
    split at hv
    · rename_i hu; rw [k1 hu]; exact hv
    · rename_i hu; rw [k1 hu]; exact hv
    · rename_i hu; rw [k1 hu]; exact hv
    · rename_i hu; rw [k1 hu]; exact hv
    · cases hv
  | tass want z x ok =>
    simp only [pop] at hv ⊢
    split at hv
    · rename_i hu; rw [k1 hu]; exact hv
    · rename_i hu; rw [k1 hu]; exact hv
    · cases hv
  | un op x => simp only [pop] at hv ⊢; split at hv; (· rename_i hu; rw [k1 hu]; exact hv); cases hv
  | conv k x => simp only [pop] at hv ⊢; split at hv; (· rename_i hu; rw [k1 hu]; exact hv); cases hv
  | iface t x => simp only [pop] at hv ⊢; split at hv; (· rename_i hu; rw [k1 hu]; exact hv); cases hv
  | fad off x => simp only [pop] at hv ⊢; split at hv; (· rename_i hu; rw [k1 hu]; exact hv); cases hv
  | fld k off x => simp only [pop] at hv ⊢; split at hv; (· rename_i hu; rw [k1 hu]; exact hv); cases hv
  | ext x i => simp only [pop] at hv ⊢; split at hv; (· rename_i hu; rw [k1 hu]; exact hv); cases hv
  | slen x => simp only [pop] at hv ⊢; split at hv; (· rename_i hu; rw [k1 hu]; exact hv); cases hv
  | tlen x => simp only [pop] at hv ⊢; split at hv; (· rename_i hu; rw [k1 hu]; exact hv); cases hv
  | lenc n x => simp only [pop] at hv ⊢; split at hv; (· rename_i hu; rw [k1 hu]; exact hv); cases hv

theorem ltarget_sub {o : LOp} {t : LT} (hv : ltarget s o = some t) : ltarget a o = some t := by
  have k1 : ∀ {x : RX} {u : Value}, x.ev s = some u → x.ev a = some u := fun hh => rx_sub h hh
  cases o with
  | load k x => simp only [ltarget] at hv ⊢; split at hv; (· rename_i hu; rw [k1 hu]; exact hv); cases hv
  | look z m k ok =>
    simp only [ltarget] at hv ⊢
    split at hv
    · rename_i hu hw; rw [k1 hu, k1 hw]; exact hv
    · rename_i hu hw; rw [k1 hu, k1 hw]; exact hv
    · cases hv
  | mlen m =>
    simp only [ltarget] at hv ⊢
    split at hv
    · rename_i hu; rw [k1 hu]; exact hv
    · rename_i hu; rw [k1 hu]; exact hv
    · cases hv

theorem lval_sub {o : LOp} {ob : CObj} {v : Value} (hv : lval s o ob = some v) : lval a o ob = some v := by
  have k1 : ∀ {x : RX} {u : Value}, x.ev s = some u → x.ev a = some u := fun hh => rx_sub h hh
  unfold lval at hv ⊢
  split at hv
  · split at hv
    · rename_i hu; simp only [k1 hu]; exact hv
    · cases hv
  · split at hv
    · rename_i hu; simp only [k1 hu]; exact hv
    · cases hv
  · exact hv
  · cases hv

theorem lop_sub {o : LOp} {W : CW} {v : Value} (hv : lop s o W = some v) : lop a o W = some v := by
  unfold lop at hv ⊢
  split at hv
  · rename_i h1; rw [ltarget_sub h h1]; exact hv
  · rename_i b h1
    rw [ltarget_sub h h1]
    simp only
    split at hv
    · rename_i ob hg; exact lval_sub h hv
    · cases hv
  · cases hv

theorem aobj_sub {o : AOp} {ob : CObj} (hv : aobj s o = some ob) : aobj a o = some ob ∧ ∀ b, aval a b o = aval s b o := by
  have k1 : ∀ {x : RX} {u : Value}, x.ev s = some u → x.ev a = some u := fun hh => rx_sub h hh
  cases o with
  | new z => exact ⟨hv, fun _ => rfl⟩
  | box x =>
    refine ⟨?_, fun _ => rfl⟩
    simp only [aobj] at hv ⊢
    split at hv
    · rename_i hu; rw [k1 hu]; exact hv
    · cases hv
  | lit n z ps =>
    refine ⟨?_, fun _ => rfl⟩
    simp only [aobj] at hv ⊢
    split at hv
    · rename_i hf; rw [fill_sub h hf]; exact hv
    · cases hv
  | mkmap => exact ⟨hv, fun _ => rfl⟩
  | mkslice b z l c =>
    simp only [aobj] at hv ⊢
    split at hv
    · rename_i hu hw
      rw [k1 hu, k1 hw]
      refine ⟨hv, fun b => ?_⟩
      simp only [aval, hu, hw, k1 hu, k1 hw]
    · cases hv

theorem xop_sub {P : Program} {o : XOp} {W : CW} {r : RNext × CW} (hv : xop P s o W = some r) : xop P a o W = some r := by
  have k1 : ∀ {x : RX} {u : Value}, x.ev s = some u → x.ev a = some u := fun hh => rx_sub h hh
  cases o with
  | store n p x => simp only [xop] at hv ⊢; split at hv; (· rename_i hu hw; rw [k1 hu, k1 hw]; exact hv); cases hv
  | mput m k x => simp only [xop] at hv ⊢; split at hv; (· rename_i h1 h2 h3; rw [k1 h1, k1 h2, k1 h3]; exact hv); cases hv
  | app size bytes x y => simp only [xop] at hv ⊢; split at hv; (· rename_i hu hw; rw [k1 hu, k1 hw]; exact hv); cases hv
  | cpy size x y => simp only [xop] at hv ⊢; split at hv; (· rename_i hu hw; rw [k1 hu, k1 hw]; exact hv); cases hv
  | clr z x => simp only [xop] at hv ⊢; split at hv; (· rename_i hu; rw [k1 hu]; exact hv); cases hv
  | callF f args => simp only [xop] at hv ⊢; split at hv; (· rename_i hu; rw [evs_sub h hu]; exact hv); cases hv
  | call f args => simp only [xop] at hv ⊢; split at hv; (· rename_i hu hw; rw [k1 hu, evs_sub h hw]; exact hv); cases hv
  | invoke name r args => simp only [xop] at hv ⊢; split at hv; (· rename_i hu hw; rw [k1 hu, evs_sub h hw]; exact hv); cases hv

theorem doX_sub {P : Program} {call : CCall} {o : XOp} {W : CW} {r : Value × CW} (hv : doX P call s o W = some r) : doX P call a o W = some r := by
  unfold doX at hv ⊢
  split at hv
  · rename_i h1; rw [xop_sub h h1]; exact hv
  · rename_i h1; rw [xop_sub h h1]; exact hv
  · cases hv

theorem doOp_sub {P : Program} {call : CCall} {o : ROp} {W : CW} {r : Value × CW} (hv : doOp P call s o W = some r) : doOp P call a o W = some r := by
  cases o with
  | p o => simp only [doOp] at hv ⊢; split at hv; (· rename_i hu; rw [pop_sub h hu]; exact hv); cases hv
  | l o => simp only [doOp] at hv ⊢; split at hv; (· rename_i hu; rw [lop_sub h hu]; exact hv); cases hv
  | a o =>
    simp only [doOp] at hv ⊢
    split at hv
    · rename_i ob hu
      obtain ⟨h1, h2⟩ := aobj_sub h hu
      rw [h1, h2]; exact hv
    · cases hv
  | x o => exact doX_sub h hv

theorem wanted_sub {g : Option (Nat × Bool)} {b : Bool} (hv : wanted s g = some b) : wanted a g = some b := by
  cases g with
  | none => exact hv
  | some gw =>
    obtain ⟨g, w⟩ := gw
    simp only [wanted] at hv ⊢
    split at hv
    · rename_i hu; rw [h _ _ hu]; exact hv
    · rename_i hu; rw [h _ _ hu]; exact hv
    · cases hv

end

theorem rsteps_sub {P : Program} {call : CCall} : ∀ (l : List RStep) (s a s' : CAct) (W W' : CW), Sub s a → rsteps P call l s W = some (s', W') → ∃ a', rsteps P call l a W = some (a', W') ∧ Sub s' a'
  | [], s, a, s', W, W', h, hv => by
    simp only [rsteps, Option.some.injEq, Prod.mk.injEq] at hv
    obtain ⟨rfl, rfl⟩ := hv
    exact ⟨a, rfl, h⟩
  | x :: l, s, a, s', W, W', h, hv => by
    simp only [rsteps] at hv
    split at hv
    · rename_i hw
      split at hv
      · rename_i v W1 h1
        obtain ⟨a', g1, g2⟩ := rsteps_sub l _ _ _ _ _ (h.put x.dst v) hv
        exact ⟨a', by simp only [rsteps, wanted_sub h hw, doOp_sub h h1, g1], g2⟩
      · cases hv
    · rename_i hw
      obtain ⟨a', g1, g2⟩ := rsteps_sub l _ _ _ _ _ (h.put x.dst undefV) hv
      exact ⟨a', by simp only [rsteps, wanted_sub h hw, g1], g2⟩
    · cases hv

theorem sub_sub {s a : CAct} (h : Sub s a) : ∀ (ts : List Nat), Sub (sub s ts) (sub a ts)
  | [], t, v, hv => by simp [sub] at hv
  | d :: l, t, v, hv => by
    have ih := sub_sub h l
    simp only [sub] at hv ⊢
    cases hs : s.get d with
    | none =>
      rw [hs] at hv
      simp only at hv
      cases ha : a.get d with
      | none => exact ih t v hv
      | some u =>
        simp only [Tr.get_set]
        split
        · rename_i e
          subst e
          have : ∀ (ts : List Nat) (w : Value), (sub s ts).get t = some w → s.get t = some w := by
            intro ts
            induction ts with
            | nil => intro w hw; simp [sub] at hw
            | cons d ts iht =>
              intro w hw
              simp only [sub] at hw
              split at hw
              · rename_i u' hu'
                rw [Tr.get_set] at hw
                split at hw
                · rename_i e; rw [e, hu']; exact hw
                · exact iht w hw
              · exact iht w hw
          rw [this l v hv] at hs; cases hs
        · exact ih t v hv
    | some u =>
      rw [hs] at hv
      rw [h d u hs]
      simp only [Tr.get_set] at hv ⊢
      split
      · rename_i e; rw [if_pos e] at hv; exact hv
      · rename_i e; rw [if_neg e] at hv; exact ih t v hv

theorem dstep_sub {P : Program} {call : CCall} {base : Nat} {x : RStep} {recs : List Rec} {s a : CAct} {W : CW} {r : Value × CW × Rec} (h : Sub s a) (hv : dstep P call base x recs s W = some r) : dstep P call base x recs a W = some r := by
  unfold dstep at hv ⊢
  split at hv
  · cases hv
  · rename_i hw; simp only [wanted_sub h hw]; exact hv
  · rename_i hw
    simp only [wanted_sub h hw]
    split at hv
    · split at hv
      · rename_i h1; simp only [pop_sub h h1]; exact hv
      · cases hv
    · rename_i o hop
      split at hv
      · rename_i h1; simp only [ltarget_sub h h1]; exact hv
      · rename_i b h1
        simp only [ltarget_sub h h1]
        split at hv
        · cases hv
        · rename_i ob hg
          split at hv
          · cases hv
          · rename_i v hl
            simp only [lval_sub h hl]
            have hsp : lspan a o = lspan s o := by
              cases o with
              | load k y =>
                simp only [ltarget] at h1
                split at h1
                · rename_i hu
                  simp only [lspan, hu, rx_sub h hu]
                · cases h1
              | _ => rfl
            rw [hsp]
            exact hv
      · cases hv
    · split at hv
      · rename_i ob h1
        obtain ⟨g1, g2⟩ := aobj_sub h h1
        simp only [g1, g2]; exact hv
      · cases hv
    · split at hv
      · rename_i v W1 h1
        simp only [doX_sub h h1]; exact hv
      · cases hv

theorem rdraw_sub {P : Program} {call : CCall} {base : Nat} : ∀ (l : List RStep) (recs : List Rec) (s a s' : CAct) (W W' : CW), Sub s a → rdraw P call base l recs s W = some (s', W') → ∃ a', rdraw P call base l recs a W = some (a', W') ∧ Sub s' a'
  | [], recs, s, a, s', W, W', h, hv => by
    simp only [rdraw, Option.some.injEq, Prod.mk.injEq] at hv
    obtain ⟨rfl, rfl⟩ := hv
    exact ⟨a, rfl, h⟩
  | x :: l, recs, s, a, s', W, W', h, hv => by
    simp only [rdraw] at hv
    split at hv
    · rename_i v W1 rc h1
      obtain ⟨a', g1, g2⟩ := rdraw_sub l _ _ _ _ _ _ (h.put x.dst v) hv
      exact ⟨a', by simp only [rdraw, dstep_sub (sub_sub h x.look) h1, g1], g2⟩
    · cases hv

theorem ex_sub {P : Program} {s a : CAct} (h : Sub s a) {W : CW} : ∀ (e : EX) (v : Value), e.ev P s W = some v → e.ev P a W = some v := by
  have k1 : ∀ {x y : Option Value} {f : Value → Option Value} {v : Value}, (∀ u, x = some u → y = some u) → b1 x f = some v → b1 y f = some v := by
    intro x y f v hh hv
    unfold b1 at hv ⊢
    split at hv
    · rename_i u; rw [hh u rfl]; exact hv
    · cases hv
  have k2 : ∀ {x y x' y' : Option Value} {f : Value → Value → Option Value} {v : Value}, (∀ u, x = some u → x' = some u) → (∀ u, y = some u → y' = some u) → b2 x y f = some v → b2 x' y' f = some v := by
    intro x y x' y' f v hx hy hv
    unfold b2 at hv ⊢
    split at hv
    · rename_i u w; rw [hx u rfl, hy w rfl]; exact hv
    · cases hv
  intro e
  induction e with
  | t n => intro v hv; exact h n v hv
  | c u => intro v hv; exact hv
  | gd q w e ihq ihe =>
    intro v hv
    simp only [EX.ev, gdV] at hv ⊢
    split at hv
    · rename_i b hb
      rw [ihq _ hb]
      simp only
      split at hv
      · rename_i hw; rw [if_pos hw]; exact ihe v hv
      · rename_i hw; rw [if_neg hw]; exact hv
    · rename_i vs hb; rw [ihq _ hb]; exact hv
    · cases hv
  | pick q x y ihq ihx ihy =>
    intro v hv
    simp only [EX.ev, pickV] at hv ⊢
    split at hv
    · rename_i b hb
      rw [ihq _ hb]
      simp only
      cases b with
      | true => simp at hv ⊢; exact ihx v hv
      | false => simp at hv ⊢; exact ihy v hv
    · cases hv
  | slc arr size fl fh fm x lo hi mx ih1 ih2 ih3 ih4 =>
    intro v hv
    have ko : ∀ {has : Bool} {x y : Option Value} {f g : Option Value → Option Value} {v : Value}, (∀ u, x = some u → y = some u) → (∀ o v, f o = some v → g o = some v) → bo has x f = some v → bo has y g = some v := by
      intro has x y f g v hh hfg hv
      unfold bo at hv ⊢
      split at hv
      · rename_i hb
        rw [if_pos hb]
        unfold b1 at hv ⊢
        split at hv
        · rename_i u; rw [hh u rfl]; exact hfg _ _ hv
        · cases hv
      · rename_i hb; rw [if_neg hb]; exact hfg _ _ hv
    simp only [EX.ev] at hv ⊢
    unfold b1 at hv ⊢
    split at hv
    · rename_i u hu
      rw [ih1 u hu]
      exact ko ih2 (fun o v hv => ko ih3 (fun o v hv => ko ih4 (fun o v hv => hv) hv) hv) hv
    · cases hv
  | bin op x y ih1 ih2 => intro v hv; exact k2 ih1 ih2 hv
  | eq k neg x y ih1 ih2 => intro v hv; exact k2 ih1 ih2 hv
  | iad arr size x y ih1 ih2 => intro v hv; exact k2 ih1 ih2 hv
  | idx n k size x y ih1 ih2 => intro v hv; exact k2 ih1 ih2 hv
  | max2 x y ih1 ih2 => intro v hv; exact k2 ih1 ih2 hv
  | min2 x y ih1 ih2 => intro v hv; exact k2 ih1 ih2 hv
  | sidx x y ih1 ih2 => intro v hv; exact k2 ih1 ih2 hv
  | look z x y ok ih1 ih2 => intro v hv; exact k2 ih1 ih2 hv
  | nchk x ih => intro v hv; exact k1 ih hv
  | un op x ih => intro v hv; exact k1 ih hv
  | conv k x ih => intro v hv; exact k1 ih hv
  | iface t x ih => intro v hv; exact k1 ih hv
  | fad off x ih => intro v hv; exact k1 ih hv
  | fld k off x ih => intro v hv; exact k1 ih hv
  | tass want z x ok ih => intro v hv; exact k1 ih hv
  | ext x i ih => intro v hv; exact k1 ih hv
  | slen x ih => intro v hv; exact k1 ih hv
  | tlen x ih => intro v hv; exact k1 ih hv
  | lenc n x ih => intro v hv; exact k1 ih hv
  | load k x ih => intro v hv; exact k1 ih hv
  | mlen x ih => intro v hv; exact k1 ih hv

end Go.Can
