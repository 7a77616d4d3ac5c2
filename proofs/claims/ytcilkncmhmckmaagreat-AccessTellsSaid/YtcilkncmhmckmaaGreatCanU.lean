/-
  Canonical code made short: straight segments as expressions. The expressions, and what a resolved step is as one.
-/
import Derived.Test.YtcilkncmhmckmaaGreatCanKF
namespace Go.Can
open Go
set_option linter.all false

inductive EX where
  | t (n : Nat)
  | c (v : Value)
  | gd (c : EX) (w : Bool) (e : EX)
  | pick (c a b : EX)
  | nchk (x : EX)
  | bin (op : BinOp) (x y : EX)
  | eq (k : EqK) (neg : Bool) (x y : EX)
  | un (op : UnOp) (x : EX)
  | conv (k : IntKind) (x : EX)
  | iface (t : TypeId) (x : EX)
  | slc (arr : Option Nat) (size : Nat) (fl fh fm : Bool) (x lo hi mx : EX)
  | fad (off : Nat) (x : EX)
  | fld (k : Option Nat) (off : Nat) (x : EX)
  | iad (arr : Option Nat) (size : Nat) (x i : EX)
  | idx (n : Nat) (k : Option Nat) (size : Nat) (x i : EX)
  | tass (want : Array (String × TypeId)) (z : Value) (x : EX) (ok : Bool)
  | ext (x : EX) (i : Nat)
  | slen (x : EX)
  | tlen (x : EX)
  | lenc (n : Nat) (x : EX)
  | max2 (x y : EX)
  | min2 (x y : EX)
  | sidx (x i : EX)
  | load (k : Option Nat) (a : EX)
  | look (z : Value) (m k : EX) (ok : Bool)
  | mlen (m : EX)

/-! What operations come to, of values. -/
def vNchk : Value → Option Value
  | .pointer (some p) => some (.pointer (some p))
  | .iface t v => some (.iface t v)
  | .func (.func f) x y => some (.func (.func f) x y)
  | .int k n => some (.int k n)
  | _ => none

def vEq (k : EqK) (neg : Bool) (u v : Value) : Option Value :=
  match ceq k u v with
  | some b => some (.bool (b != neg))
  | none => none

def vConv (k : IntKind) : Value → Option Value
  | .int _ n => some (.int k (k.wrap n))
  | _ => none

def vSlc (arr : Option Nat) (size : Nat) (v : Value) (lo hi mx : Option Value) : Option Value :=
  match arr, v with
  | some n, .pointer (some ⟨b, off, _⟩) => cslice size b off (some 1) n n lo hi mx
  | none, .slice (some ⟨b, off, sp⟩) len cap => cslice size b off sp len cap lo hi mx
  | none, .slice none 0 0 => match bound mx 0 0, bound hi 0 0, bound lo 0 0 with
    | some _, some _, some _ => if mx.isSome = true → hi.isSome = true then some (.slice none 0 0) else none
    | _, _, _ => none
  | _, _ => none

def vFad (off : Nat) : Value → Option Value
  | .pointer (some ⟨b, o, _⟩) => some (ptr b (o + off))
  | _ => none

def vFld (k : Option Nat) (off : Nat) : Value → Option Value
  | .agg cs => part k cs.toList off
  | _ => none

def vIad (arr : Option Nat) (size : Nat) (v i : Value) : Option Value :=
  match i with
  | .int _ i => match arr, v with
    | some n, .pointer (some ⟨b, off, _⟩) => if 0 ≤ i ∧ i < n then some (ptr b (off + i.toNat * size)) else none
    | none, .slice (some ⟨b, off, _⟩) n _ => if 0 ≤ i ∧ i < n then some (ptr b (off + i.toNat * size)) else none
    | _, _ => none
  | _ => none

def vIdx (n : Nat) (k : Option Nat) (size : Nat) (v i : Value) : Option Value :=
  match v, i with
  | .agg cs, .int _ i => if 0 ≤ i ∧ i < n then part k cs.toList (i.toNat * size) else none
  | _, _ => none

def vTass (P : Program) (want : Array (String × TypeId)) (z : Value) (ok : Bool) : Value → Option Value
  | .nilIface => if ok then some (.tuple #[z, .bool false]) else none
  | .iface t v => match csat P t want with
    | some true => some (if ok then .tuple #[.iface t v, .bool true] else .iface t v)
    | some false => if ok then some (.tuple #[z, .bool false]) else none
    | none => none
  | _ => none

def vExt (i : Nat) : Value → Option Value
  | .tuple vs => vs.toList[i]?
  | _ => none

def vSlen : Value → Option Value
  | .slice _ n _ => some (.int .i64 n)
  | _ => none

def vTlen : Value → Option Value
  | .string s => some (.int .i64 s.size)
  | _ => none

def vMax : Value → Value → Option Value
  | .int k m, .int k' n => if k = k' then some (.int k (if n > m then n else m)) else none
  | _, _ => none

def vMin : Value → Value → Option Value
  | .int k m, .int k' n => if k = k' then some (.int k (if n < m then n else m)) else none
  | _, _ => none

def vSidx : Value → Value → Option Value
  | .string s, .int _ i => if 0 ≤ i then match s.data.toList[i.toNat]? with
      | some b => some (.int .u8 b.toNat)
      | none => none
    else none
  | _, _ => none

def vLoad (W : CW) (k : Option Nat) : Value → Option Value
  | .pointer (some ⟨b, off, _⟩) => match W.get b with
    | some (.row cs _) => part k cs off
    | _ => none
  | _ => none

def vLook (W : CW) (z : Value) (ok : Bool) (m k : Value) : Option Value :=
  match m, k with
  | .map none, .int _ _ => some (if ok then .tuple #[z, .bool false] else z)
  | .map (some r), .int kk k => match W.get r with
    | some (.map es) => match mapFind kk k es 0 with
      | some (some (_, v)) => some (if ok then .tuple #[v, .bool true] else v)
      | some none => some (if ok then .tuple #[z, .bool false] else z)
      | none => none
    | _ => none
  | _, _ => none

def vMlen (W : CW) : Value → Option Value
  | .map none => some (.int .i64 0)
  | .map (some r) => match W.get r with
    | some (.map es) => some (.int .i64 es.length)
    | _ => none
  | _ => none

def b1 (x : Option Value) (f : Value → Option Value) : Option Value :=
  match x with
  | some v => f v
  | none => none

def b2 (x y : Option Value) (f : Value → Value → Option Value) : Option Value :=
  match x, y with
  | some u, some v => f u v
  | _, _ => none

def bo (has : Bool) (x : Option Value) (f : Option Value → Option Value) : Option Value :=
  if has then b1 x fun v => f (some v) else f none

def pickV (c : Option Value) (x y : Option Value) : Option Value :=
  match c with
  | some (.bool t) => if t then x else y
  | _ => none

def gdV (c : Option Value) (w : Bool) (x : Option Value) : Option Value :=
  match c with
  | some (.bool b) => if b = w then x else some undefV
  | some (.tuple _) => some undefV
  | _ => none

def EX.ev (P : Program) (a : CAct) (W : CW) : EX → Option Value
  | .t n => a.get n
  | .c v => some v
  | .gd q w e => gdV (q.ev P a W) w (e.ev P a W)
  | .pick q x y => pickV (q.ev P a W) (x.ev P a W) (y.ev P a W)
  | .nchk x => b1 (x.ev P a W) vNchk
  | .bin op x y => b2 (x.ev P a W) (y.ev P a W) (cbin op)
  | .eq k neg x y => b2 (x.ev P a W) (y.ev P a W) (vEq k neg)
  | .un op x => b1 (x.ev P a W) (cun op)
  | .conv k x => b1 (x.ev P a W) (vConv k)
  | .iface ty x => b1 (x.ev P a W) fun v => some (.iface ty v)
  | .slc arr size fl fh fm x lo hi mx => b1 (x.ev P a W) fun v => bo fl (lo.ev P a W) fun l => bo fh (hi.ev P a W) fun h => bo fm (mx.ev P a W) fun m => vSlc arr size v l h m
  | .fad off x => b1 (x.ev P a W) (vFad off)
  | .fld k off x => b1 (x.ev P a W) (vFld k off)
  | .iad arr size x i => b2 (x.ev P a W) (i.ev P a W) (vIad arr size)
  | .idx n k size x i => b2 (x.ev P a W) (i.ev P a W) (vIdx n k size)
  | .tass want z x ok => b1 (x.ev P a W) (vTass P want z ok)
  | .ext x i => b1 (x.ev P a W) (vExt i)
  | .slen x => b1 (x.ev P a W) vSlen
  | .tlen x => b1 (x.ev P a W) vTlen
  | .lenc n x => b1 (x.ev P a W) fun _ => some (.int .i64 n)
  | .max2 x y => b2 (x.ev P a W) (y.ev P a W) vMax
  | .min2 x y => b2 (x.ev P a W) (y.ev P a W) vMin
  | .sidx x i => b2 (x.ev P a W) (i.ev P a W) vSidx
  | .load k x => b1 (x.ev P a W) (vLoad W k)
  | .look z m k ok => b2 (m.ev P a W) (k.ev P a W) (vLook W z ok)
  | .mlen m => b1 (m.ev P a W) (vMlen W)

def opE (f : RX → EX) : Option RX → EX
  | some x => f x
  | none => .c undefV

/-- A step as an expression, its operands told by f (in the branches of a pick: by fa and fb). -/
def stepE (f fa fb : RX → EX) : ROp → Option EX
  | .p (.mv x) => some (f x)
  | .p (.pick c x y) => some (.pick (f c) (fa x) (fb y))
  | .p (.nchk x) => some (.nchk (f x))
  | .p (.bin op x y) => some (.bin op (f x) (f y))
  | .p (.eq k neg x y) => some (.eq k neg (f x) (f y))
  | .p (.un op x) => some (.un op (f x))
  | .p (.conv k x) => some (.conv k (f x))
  | .p (.iface t x) => some (.iface t (f x))
  | .p (.slc arr size x lo hi mx) => some (.slc arr size lo.isSome hi.isSome mx.isSome (f x) (opE f lo) (opE f hi) (opE f mx))
  | .p (.fad off x) => some (.fad off (f x))
  | .p (.fld k off x) => some (.fld k off (f x))
  | .p (.iad arr size x i) => some (.iad arr size (f x) (f i))
  | .p (.idx n k size x i) => some (.idx n k size (f x) (f i))
  | .p (.tass want z x ok) => some (.tass want z (f x) ok)
  | .p (.ext x i) => some (.ext (f x) i)
  | .p (.slen x) => some (.slen (f x))
  | .p (.tlen x) => some (.tlen (f x))
  | .p (.lenc n x) => some (.lenc n (f x))
  | .p (.max2 x y) => some (.max2 (f x) (f y))
  | .p (.min2 x y) => some (.min2 (f x) (f y))
  | .p (.sidx x i) => some (.sidx (f x) (f i))
  | .l (.load k x) => some (.load k (f x))
  | .l (.look z m k ok) => some (.look z (f m) (f k) ok)
  | .l (.mlen m) => some (.mlen (f m))
  | _ => none

/-- A step that is an expression comes to what the expression comes to. -/
theorem stepE_sound {P : Program} {call : CCall} {a0 a : CAct} {W : CW} {f fa fb : RX → EX} {o : ROp} {e : EX} (h : stepE f fa fb o = some e) (hf : ∀ x v, (f x).ev P a0 W = some v → x.ev a = some v)
    (hp : ∀ c x y, o = .p (.pick c x y) → (c.ev a = some (.bool true) → ∀ v, (fa x).ev P a0 W = some v → x.ev a = some v) ∧ (c.ev a = some (.bool false) → ∀ v, (fb y).ev P a0 W = some v → y.ev a = some v))
    {v : Value} (hv : e.ev P a0 W = some v) : doOp P call a o W = some (v, W) := by
  have h1 : ∀ {x : RX} {g : Value → Option Value} {v : Value}, b1 ((f x).ev P a0 W) g = some v → ∃ u, x.ev a = some u ∧ g u = some v := by
    intro x g v hh
    unfold b1 at hh
    split at hh
    · rename_i u hu; exact ⟨u, hf x u hu, hh⟩
    · cases hh
  have h2 : ∀ {x y : RX} {g : Value → Value → Option Value} {v : Value}, b2 ((f x).ev P a0 W) ((f y).ev P a0 W) g = some v → ∃ u w, x.ev a = some u ∧ y.ev a = some w ∧ g u w = some v := by
    intro x y g v hh
    unfold b2 at hh
    split at hh
    · rename_i u w hu hw; exact ⟨u, w, hf x u hu, hf y w hw, hh⟩
    · cases hh
  cases o with
  | p o =>
    have key : pop P a o = some v → doOp P call a (.p o) W = some (v, W) := fun h => by simp only [doOp, h]
    apply key
    cases o with
    | mv x => simp only [stepE, Option.some.injEq] at h; subst h; exact hf x v hv
    | pick c x y =>
      simp only [stepE, Option.some.injEq] at h; subst h
      obtain ⟨hp1, hp2⟩ := hp c x y rfl
      simp only [EX.ev, pickV] at hv
      split at hv
      · rename_i t ht
        have hc := hf c _ ht
        simp only [pop, hc]
        cases t with
        | true => simp at hv ⊢; exact hp1 hc v hv
        | false => simp at hv ⊢; exact hp2 hc v hv
      · cases hv
    | build z ps => simp [stepE] at h
    | func fn x y => simp [stepE] at h
    | fail => simp [stepE] at h
    | nchk x =>
      simp only [stepE, Option.some.injEq] at h; subst h
      obtain ⟨u, hu, hg⟩ := h1 hv
      simp only [pop, hu]; unfold vNchk at hg; (repeat' split at hg) <;> first | exact hg | cases hg
    | bin op x y =>
      simp only [stepE, Option.some.injEq] at h; subst h
      obtain ⟨u, w, hu, hw, hg⟩ := h2 hv
      simp only [pop, hu, hw]; exact hg
    | eq k neg x y =>
      simp only [stepE, Option.some.injEq] at h; subst h
      obtain ⟨u, w, hu, hw, hg⟩ := h2 hv
      simp only [pop, hu, hw]; exact hg
    | un op x =>
      simp only [stepE, Option.some.injEq] at h; subst h
      obtain ⟨u, hu, hg⟩ := h1 hv
      simp only [pop, hu]; exact hg
    | conv k x =>
      simp only [stepE, Option.some.injEq] at h; subst h
      obtain ⟨u, hu, hg⟩ := h1 hv
      simp only [pop, hu]; unfold vConv at hg; split at hg <;> first | exact hg | cases hg
    | iface t x =>
      simp only [stepE, Option.some.injEq] at h; subst h
      obtain ⟨u, hu, hg⟩ := h1 hv
      simp only [pop, hu]; exact hg
    | slc arr size x lo hi mx =>
      simp only [stepE, Option.some.injEq] at h; subst h
      obtain ⟨u, hu, hg⟩ := h1 hv
      have ho : ∀ {q : Option RX} {g : Option Value → Option Value} {v : Value}, bo q.isSome ((opE f q).ev P a0 W) g = some v → ∃ r, evo a q = some r ∧ g r = some v := by
        intro q g v hh
        cases q with
        | none => simp [bo] at hh; exact ⟨none, rfl, hh⟩
        | some x =>
          simp only [bo, Option.isSome_some, if_true, opE] at hh
          obtain ⟨w, hw, hg⟩ := h1 hh
          exact ⟨some w, by simp [evo, hw], hg⟩
      obtain ⟨l, hl, hg⟩ := ho hg
      obtain ⟨h', hh, hg⟩ := ho hg
      obtain ⟨m, hm, hg⟩ := ho hg
      simp only [pop, hu, hl, hh, hm]; exact hg
    | fad off x =>
      simp only [stepE, Option.some.injEq] at h; subst h
      obtain ⟨u, hu, hg⟩ := h1 hv
      simp only [pop, hu]; unfold vFad at hg; split at hg <;> first | exact hg | cases hg
    | fld k off x =>
      simp only [stepE, Option.some.injEq] at h; subst h
      obtain ⟨u, hu, hg⟩ := h1 hv
      simp only [pop, hu]; unfold vFld at hg; split at hg <;> first | exact hg | cases hg
    | iad arr size x i =>
      simp only [stepE, Option.some.injEq] at h; subst h
      obtain ⟨u, w, hu, hw, hg⟩ := h2 hv
      simp only [pop, hu, hw]; unfold vIad at hg; split at hg <;> first | exact hg | cases hg
    | idx n k size x i =>
      simp only [stepE, Option.some.injEq] at h; subst h
      obtain ⟨u, w, hu, hw, hg⟩ := h2 hv
      simp only [pop, hu, hw]; unfold vIdx at hg; split at hg <;> first | exact hg | cases hg
    | tass want z x ok =>
      simp only [stepE, Option.some.injEq] at h; subst h
      obtain ⟨u, hu, hg⟩ := h1 hv
      simp only [pop, hu]; unfold vTass at hg; split at hg <;> first | exact hg | cases hg
    | ext x i =>
      simp only [stepE, Option.some.injEq] at h; subst h
      obtain ⟨u, hu, hg⟩ := h1 hv
      simp only [pop, hu]; unfold vExt at hg; split at hg <;> first | exact hg | cases hg
    | slen x =>
      simp only [stepE, Option.some.injEq] at h; subst h
      obtain ⟨u, hu, hg⟩ := h1 hv
      simp only [pop, hu]; unfold vSlen at hg; split at hg <;> first | exact hg | cases hg
    | tlen x =>
      simp only [stepE, Option.some.injEq] at h; subst h
      obtain ⟨u, hu, hg⟩ := h1 hv
      simp only [pop, hu]; unfold vTlen at hg; split at hg <;> first | exact hg | cases hg
    | lenc n x =>
      simp only [stepE, Option.some.injEq] at h; subst h
      obtain ⟨u, hu, hg⟩ := h1 hv
      simp only [pop, hu]; exact hg
    | max2 x y =>
      simp only [stepE, Option.some.injEq] at h; subst h
      obtain ⟨u, w, hu, hw, hg⟩ := h2 hv
      simp only [pop, hu, hw]; unfold vMax at hg; split at hg <;> first | exact hg | cases hg
    | min2 x y =>
      simp only [stepE, Option.some.injEq] at h; subst h
      obtain ⟨u, w, hu, hw, hg⟩ := h2 hv
      simp only [pop, hu, hw]; unfold vMin at hg; split at hg <;> first | exact hg | cases hg
    | sidx x i =>
      simp only [stepE, Option.some.injEq] at h; subst h
      obtain ⟨u, w, hu, hw, hg⟩ := h2 hv
      simp only [pop, hu, hw]; unfold vSidx at hg; split at hg <;> first | exact hg | cases hg
  | l o =>
    have key : lop a o W = some v → doOp P call a (.l o) W = some (v, W) := fun h => by simp only [doOp, h]
    apply key
    cases o with
    | load k x =>
      simp only [stepE, Option.some.injEq] at h; subst h
      obtain ⟨u, hu, hg⟩ := h1 hv
      unfold vLoad at hg
      split at hg
      · rename_i b off sp
        split at hg
        · rename_i cs own hw
          simp only [lop, ltarget, hu, hw, lval]
          exact hg
        · cases hg
      · cases hg
    | look z m k ok =>
      simp only [stepE, Option.some.injEq] at h; subst h
      obtain ⟨u, w, hu, hw, hg⟩ := h2 hv
      unfold vLook at hg
      split at hg
      · simp only [lop, ltarget, hu, hw]; exact hg
      · split at hg
        · rename_i es hes
          simp only [lop, ltarget, hu, hw, hes, lval]
          exact hg
        · cases hg
      · cases hg
    | mlen m =>
      simp only [stepE, Option.some.injEq] at h; subst h
      obtain ⟨u, hu, hg⟩ := h1 hv
      unfold vMlen at hg
      split at hg
      · simp only [lop, ltarget, hu]; exact hg
      · split at hg
        · rename_i es hes
          simp only [lop, ltarget, hu, hes, lval]
          exact hg
        · cases hg
      · cases hg
  | a o => simp [stepE] at h
  | x o => simp [stepE] at h

end Go.Can
