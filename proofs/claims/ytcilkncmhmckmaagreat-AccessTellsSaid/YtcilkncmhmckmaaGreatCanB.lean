/-
  The canonical semantics: tries, the relation between canonical values and the model's, and between heaps.
-/
import Derived.Test.YtcilkncmhmckmaaGreatCanA
import Derived.Laws.World
import Derived.Laws.Sem
import Derived.Laws.Cells
namespace Go.Can
open Go
set_option linter.unusedSimpArgs false

theorem Tr.beq_cases {β : Type} (k j : Nat) (x y : β) : (Bool.casesOn (motive := fun _ => β) (Nat.beq k j) x y) = if k = j then y else x := by
  by_cases h : k = j
  · subst h; simp [Nat.beq_refl]
  · have : Nat.beq k j = false := by
      cases hb : Nat.beq k j with
      | false => rfl
      | true => exact absurd (Nat.eq_of_beq_eq_true hb) h
    rw [this, if_neg h]

@[simp] theorem Tr.get_nil {α : Type} (j : Nat) : (Tr.nil : Tr α).get j = none := rfl
theorem Tr.get_node {α : Type} (l r : Tr α) (v : Option α) (k : Nat) : (Tr.node l v r).get k = if k = 0 then v else if k % 2 = 1 then l.get (k / 2) else r.get (k / 2 - 1) := by
  show (Bool.casesOn (motive := fun _ => Option α) (Nat.beq k 0) (Bool.casesOn (motive := fun _ => Option α) (Nat.beq (Nat.mod k 2) 1) (r.get (Nat.pred (Nat.div k 2))) (l.get (Nat.div k 2))) v) = _
  rw [Tr.beq_cases, Tr.beq_cases]; rfl
theorem Tr.get_cons {α : Type} (k j : Nat) (a : α) (t : Tr α) : (Tr.cons k a t).get j = if j = k then some a else t.get j := by
  show (Bool.casesOn (motive := fun _ => Option α) (Nat.beq j k) (t.get j) (some a)) = _
  rw [Tr.beq_cases]
theorem Tr.setF_nil {α : Type} (f k : Nat) (a : α) : Tr.setF (f + 1) .nil k a = if k = 0 then .node .nil (some a) .nil else if k % 2 = 1 then .node (Tr.setF f .nil (k / 2) a) none .nil else .node .nil none (Tr.setF f .nil (k / 2 - 1) a) := by
  show (Bool.casesOn (motive := fun _ => Tr α) (Nat.beq k 0) (Bool.casesOn (motive := fun _ => Tr α) (Nat.beq (Nat.mod k 2) 1) (.node .nil none (Tr.setF f .nil (Nat.pred (Nat.div k 2)) a)) (.node (Tr.setF f .nil (Nat.div k 2) a) none .nil)) (.node .nil (some a) .nil)) = _
  rw [Tr.beq_cases, Tr.beq_cases]; rfl
theorem Tr.setF_node {α : Type} (f k : Nat) (l r : Tr α) (v : Option α) (a : α) : Tr.setF (f + 1) (.node l v r) k a = if k = 0 then .node l (some a) r else if k % 2 = 1 then .node (Tr.setF f l (k / 2) a) v r else .node l v (Tr.setF f r (k / 2 - 1) a) := by
  show (Bool.casesOn (motive := fun _ => Tr α) (Nat.beq k 0) (Bool.casesOn (motive := fun _ => Tr α) (Nat.beq (Nat.mod k 2) 1) (.node l v (Tr.setF f r (Nat.pred (Nat.div k 2)) a)) (.node (Tr.setF f l (Nat.div k 2) a) v r)) (.node l (some a) r)) = _
  rw [Tr.beq_cases, Tr.beq_cases]; rfl

theorem Tr.get_setF {α : Type} : ∀ (f : Nat) (t : Tr α) (k j : Nat) (v : α), k < f →
    (Tr.setF f t k v).get j = if j = k then some v else t.get j := by
  intro f
  induction f with
  | zero => intro t k j v h; omega
  | succ f ih =>
    intro t k j v h
    cases t with
    | nil =>
      rw [Tr.setF_nil]
      by_cases hk : k = 0
      · subst hk
        by_cases hj : j = 0 <;> simp [Tr.get_nil, Tr.get_node, hj]
      · rw [if_neg hk]
        by_cases h2 : k % 2 = 1
        · rw [if_pos h2]
          by_cases hj : j = 0
          · subst hj
            have : ¬ (0 = k) := by omega
            simp [Tr.get_nil, Tr.get_node, this]
          · by_cases hj2 : j % 2 = 1
            · simp only [Tr.get_nil, Tr.get_node, hj, hj2, if_true, if_false]
              rw [ih _ _ _ _ (by omega)]
              by_cases e : j = k
              · simp [e]
              · have : ¬ (j / 2 = k / 2) := by omega
                simp [e, this, Tr.get_nil, Tr.get_node]
            · have : ¬ (j = k) := by omega
              simp [Tr.get_nil, Tr.get_node, hj, hj2, this]
        · rw [if_neg h2]
          by_cases hj : j = 0
          · subst hj
            have : ¬ (0 = k) := by omega
            simp [Tr.get_nil, Tr.get_node, this]
          · by_cases hj2 : j % 2 = 1
            · have : ¬ (j = k) := by omega
              simp [Tr.get_nil, Tr.get_node, hj, hj2, this]
            · simp only [Tr.get_nil, Tr.get_node, hj, hj2, if_false]
              rw [ih _ _ _ _ (by omega)]
              by_cases e : j = k
              · simp [e]
              · have : ¬ (j / 2 - 1 = k / 2 - 1) := by omega
                simp [e, this, Tr.get_nil, Tr.get_node]
    | cons k' a' t =>
      show (Tr.cons k v (.cons k' a' t)).get j = _
      rw [Tr.get_cons]
    | node l u r =>
      rw [Tr.setF_node]
      by_cases hk : k = 0
      · subst hk
        by_cases hj : j = 0 <;> simp [Tr.get_nil, Tr.get_node, hj]
      · rw [if_neg hk]
        by_cases h2 : k % 2 = 1
        · rw [if_pos h2]
          by_cases hj : j = 0
          · subst hj
            have : ¬ (0 = k) := by omega
            simp [Tr.get_nil, Tr.get_node, this]
          · by_cases hj2 : j % 2 = 1
            · simp only [Tr.get_nil, Tr.get_node, hj, hj2, if_true, if_false]
              rw [ih _ _ _ _ (by omega)]
              by_cases e : j = k
              · simp [e]
              · have : ¬ (j / 2 = k / 2) := by omega
                simp [e, this]
            · have : ¬ (j = k) := by omega
              simp [Tr.get_nil, Tr.get_node, hj, hj2, this]
        · rw [if_neg h2]
          by_cases hj : j = 0
          · subst hj
            have : ¬ (0 = k) := by omega
            simp [Tr.get_nil, Tr.get_node, this]
          · by_cases hj2 : j % 2 = 1
            · have : ¬ (j = k) := by omega
              simp [Tr.get_nil, Tr.get_node, hj, hj2, this]
            · simp only [Tr.get_nil, Tr.get_node, hj, hj2, if_false]
              rw [ih _ _ _ _ (by omega)]
              by_cases e : j = k
              · simp [e]
              · have : ¬ (j / 2 - 1 = k / 2 - 1) := by omega
                simp [e, this]

theorem Tr.get_set {α : Type} (t : Tr α) (k j : Nat) (v : α) : (t.set k v).get j = if j = k then some v else t.get j :=
  Tr.get_setF _ _ _ _ _ (Nat.lt_succ_self k)


theorem CW.get_put (W : CW) (b j : Nat) (o : CObj) : (W.put b o).get j = if j = b then some o else W.get j := Tr.get_set _ _ _ _
theorem CW.get_putR (W : CW) (b j lo n : Nat) (cs : List Value) : (W.putR b cs lo n).get j = if j = b then some (.row cs true) else W.get j := Tr.get_set _ _ _ _
theorem CW.get_push (W : CW) (j : Nat) (o : CObj) : (W.push o).get j = if j = W.next then some o else W.get j := Tr.get_set _ _ _ _
@[simp] theorem CW.next_put (W : CW) (b : Nat) (o : CObj) : (W.put b o).next = W.next := rfl
@[simp] theorem CW.next_putR (W : CW) (b lo n : Nat) (cs : List Value) : (W.putR b cs lo n).next = W.next := rfl
@[simp] theorem CW.next_push (W : CW) (o : CObj) : (W.push o).next = W.next + 1 := rfl

/-! Values. -/

/-- Where canonical blocks lie: how many there are, and the place of each that is alive. -/
structure Pl where
  blk : Nat
  off : Nat
  tot : Nat

structure Rn where
  N : Nat
  has : Nat → Prop
  f : Nat → Option Pl
  lt : ∀ b, has b → b < N

inductive VR (r : Rn) : Value → Value → Prop where
  | bool (b : Bool) : VR r (.bool b) (.bool b)
  | int (k : IntKind) (n : Int) : VR r (.int k n) (.int k n)
  | str (s : ByteArray) : VR r (.string s) (.string s)
  | nilp : VR r (.pointer none) (.pointer none)
  | ptr (b off : Nat) (sp : Option Nat) (a : Addr) (hb : r.has b) (h : ∀ p, r.f b = some p → a = ⟨p.blk, p.off + off, none⟩) :
      VR r (.pointer (some ⟨b, off, sp⟩)) (.pointer (some a))
  | nils : VR r (.slice none 0 0) (.slice none 0 0)
  | slc (b off : Nat) (sp : Option Nat) (n c : Nat) (a : Addr) (c' : Nat) (hb : r.has b) (hn : n ≤ c) (hc : c ≤ c') (he : sp = some 1 → c = c')
      (h : ∀ p, r.f b = some p → a.block = p.blk ∧ a.spot = none ∧ (0 < c → a.off = p.off + off) ∧ (∀ sz, sp = some (2 + sz) → a.off + c' * sz ≤ p.off + p.tot)) :
      VR r (.slice (some ⟨b, off, sp⟩) n c) (.slice (some a) n c')
  | nilm : VR r (.map none) (.map none)
  | map (b b' : Nat) (hb : r.has b) (h : ∀ p, r.f b = some p → b' = p.blk) : VR r (.map (some b)) (.map (some b'))
  | nilf : VR r .nilFunc .nilFunc
  | func (fn : Fn) (f c f' c' : Array Value) (hf : f.size = f'.size) (hc : c.size = c'.size)
      (h : ∀ (i : Nat) (v v' : Value), f[i]? = some v → f'[i]? = some v' → VR r v v') (h' : ∀ (i : Nat) (v v' : Value), c[i]? = some v → c'[i]? = some v' → VR r v v') :
      VR r (.func fn f c) (.func fn f' c')
  | nili : VR r .nilIface .nilIface
  | iface (t : TypeId) (v v' : Value) (h : VR r v v') : VR r (.iface t v) (.iface t v')
  | agg (cs cs' : Array Value) (hs : cs.size = cs'.size) (h : ∀ (i : Nat) (v v' : Value), cs[i]? = some v → cs'[i]? = some v' → VR r v v') : VR r (.agg cs) (.agg cs')
  | tuple (cs cs' : Array Value) (hs : cs.size = cs'.size) (h : ∀ (i : Nat) (v v' : Value), cs[i]? = some v → cs'[i]? = some v' → VR r v v') : VR r (.tuple cs) (.tuple cs')

/-- Later places: there may be more blocks, and fewer of the old ones alive. -/
structure Later (r r' : Rn) : Prop where
  has : ∀ b, r.has b → r'.has b
  old : ∀ b, r.has b → ∀ x, r'.f b = some x → r.f b = some x

theorem Later.refl (r : Rn) : Later r r := ⟨fun _ h => h, fun _ _ _ h => h⟩
theorem Later.trans {r r1 r2 : Rn} (h : Later r r1) (h' : Later r1 r2) : Later r r2 :=
  ⟨fun b hb => h'.has b (h.has b hb), fun b hb x hx => h.old b hb x (h'.old b (h.has b hb) x hx)⟩

theorem VR.mono {r r' : Rn} (hl : Later r r') {v v' : Value} (h : VR r v v') : VR r' v v' := by
  induction h with
  | bool b => exact .bool b
  | int k n => exact .int k n
  | str s => exact .str s
  | nilp => exact .nilp
  | ptr b off sp a hb h => exact .ptr b off sp a (hl.has b hb) fun p hx => h p (hl.old b hb _ hx)
  | nils => exact .nils
  | slc b off sp n c a c' hb hn hc he h => exact .slc b off sp n c a c' (hl.has b hb) hn hc he fun p hx => h p (hl.old b hb _ hx)
  | nilm => exact .nilm
  | map b b' hb h => exact .map b b' (hl.has b hb) fun p hx => h p (hl.old b hb _ hx)
  | nilf => exact .nilf
  | func fn f c f' c' hf hc _ _ ih ih' => exact .func fn f c f' c' hf hc (fun i v v' => ih i v v') (fun i v v' => ih' i v v')
  | nili => exact .nili
  | iface t v v' _ ih => exact .iface t v v' ih
  | agg cs cs' hs _ ih => exact .agg cs cs' hs fun i v v' => ih i v v'
  | tuple cs cs' hs _ ih => exact .tuple cs cs' hs fun i v v' => ih i v v'

theorem VR.of_okC1 (r : Rn) {v : Value} (h : okC1 v = true) : VR r v v := by
  cases v with
  | bool b => exact .bool b
  | int k n => exact .int k n
  | string s => exact .str s
  | pointer a => cases a with
    | none => exact .nilp
    | some a => simp [okC1] at h
  | slice a n c =>
    cases a with
    | some a => simp [okC1] at h
    | none =>
      cases n with
      | succ n => simp [okC1] at h
      | zero => cases c with
        | zero => exact .nils
        | succ c => simp [okC1] at h
  | map a => cases a with
    | none => exact .nilm
    | some a => simp [okC1] at h
  | nilFunc => exact .nilf
  | nilIface => exact .nili
  | func fn f c =>
    cases fn with
    | func k =>
      simp [okC1] at h
      obtain ⟨rfl, rfl⟩ := h
      exact .func _ _ _ _ _ rfl rfl (fun i v v' hv => by simp at hv) (fun i v v' hv => by simp at hv)
    | _ => simp [okC1] at h
  | _ => simp [okC1] at h

theorem VR.of_okC (r : Rn) {v : Value} (h : okC v = true) : VR r v v := by
  cases v with
  | agg cs =>
    simp only [okC, List.all_eq_true] at h
    refine .agg _ _ rfl fun i v v' hv hv' => ?_
    rw [hv] at hv'
    cases hv'
    exact VR.of_okC1 r (h v (Array.mem_toList_iff.2 (Array.mem_of_getElem? hv)))
  | _ => exact VR.of_okC1 r h

/-! Lists of values. -/
def VRL (r : Rn) (l l' : List Value) : Prop := l.length = l'.length ∧ ∀ (i : Nat) (v v' : Value), l[i]? = some v → l'[i]? = some v' → VR r v v'

theorem VRL.mono {r r' : Rn} (hl : Later r r') {l l' : List Value} (h : VRL r l l') : VRL r' l l' := ⟨h.1, fun i v v' a b => (h.2 i v v' a b).mono hl⟩
theorem VRL.nil (r : Rn) : VRL r [] [] := ⟨rfl, fun i v v' h => by simp at h⟩
theorem VRL.cons {r : Rn} {v v' : Value} {l l' : List Value} (h : VR r v v') (hl : VRL r l l') : VRL r (v :: l) (v' :: l') := by
  refine ⟨by simp [hl.1], fun i x x' hx hx' => ?_⟩
  cases i with
  | zero => simp at hx hx'; subst hx; subst hx'; exact h
  | succ i => exact hl.2 i x x' (by simpa using hx) (by simpa using hx')
theorem VRL.get {r : Rn} {l l' : List Value} (h : VRL r l l') {i : Nat} {v : Value} (hv : l[i]? = some v) : ∃ v', l'[i]? = some v' ∧ VR r v v' := by
  have hi : i < l'.length := by rw [← h.1]; exact (List.getElem?_eq_some_iff.1 hv).1
  exact ⟨l'[i], by simp [hi], h.2 i v _ hv (by simp [hi])⟩
theorem VRL.append {r : Rn} {l l' m m' : List Value} (h : VRL r l l') (hm : VRL r m m') : VRL r (l ++ m) (l' ++ m') := by
  refine ⟨by simp [h.1, hm.1], fun i x x' hx hx' => ?_⟩
  by_cases hi : i < l.length
  · rw [List.getElem?_append_left hi] at hx
    rw [List.getElem?_append_left (by rw [← h.1]; exact hi)] at hx'
    exact h.2 i x x' hx hx'
  · rw [List.getElem?_append_right (by omega)] at hx
    rw [List.getElem?_append_right (by rw [← h.1]; omega), ← h.1] at hx'
    exact hm.2 _ x x' hx hx'
theorem VRL.of_okC (r : Rn) {z : Value} (h : okC z = true) : VRL r (cells z) (cells z) := by
  cases z with
  | agg cs =>
    refine ⟨rfl, fun i v v' hv hv' => ?_⟩
    rw [hv] at hv'
    cases hv'
    simp only [okC, List.all_eq_true] at h
    exact VR.of_okC1 r (h v (List.mem_of_getElem? hv))
  | _ =>
    refine ⟨rfl, fun i v v' hv hv' => ?_⟩
    rw [hv] at hv'
    cases hv'
    cases i with
    | zero => simp [cells] at hv; subst hv; exact VR.of_okC r h
    | succ i => simp [cells] at hv
theorem VRL.reps {r : Rn} {l l' : List Value} (h : VRL r l l') : ∀ n, VRL r (reps n l) (reps n l')
  | 0 => VRL.nil r
  | n + 1 => h.append (VRL.reps h n)
theorem VRL.take {r : Rn} {l l' : List Value} (h : VRL r l l') (n : Nat) : VRL r (l.take n) (l'.take n) := by
  refine ⟨by simp [h.1], fun i x x' hx hx' => ?_⟩
  rw [List.getElem?_take] at hx hx'
  split at hx
  · rename_i hi; simp [hi] at hx'; exact h.2 i x x' hx hx'
  · simp at hx
theorem VRL.drop {r : Rn} {l l' : List Value} (h : VRL r l l') (n : Nat) : VRL r (l.drop n) (l'.drop n) := by
  refine ⟨by simp [h.1], fun i x x' hx hx' => ?_⟩
  rw [List.getElem?_drop] at hx hx'
  exact h.2 _ x x' hx hx'

theorem VR.cells {r : Rn} {v v' : Value} (h : VR r v v') : VRL r (cells v) (v'.cells.toList) := by
  cases h with
  | agg cs cs' hs h => exact ⟨by simpa [Can.cells, Value.cells] using hs, fun i v v' hv hv' => h i v v' (by simpa [Can.cells] using hv) (by simpa [Value.cells] using hv')⟩
  | _ => exact VRL.cons (by constructor <;> assumption) (VRL.nil r)

theorem VR.arr_of {r : Rn} {l : List Value} {c : Array Value} (h : VRL r l c.toList) : VR r (.agg l.toArray) (.agg c) :=
  .agg _ _ (by simpa using h.1) fun i v v' hv hv' => h.2 i v v' (by simpa using hv) (by simpa using hv')

theorem VR.tup_of {r : Rn} {l : List Value} {c : Array Value} (h : VRL r l c.toList) : VR r (.tuple l.toArray) (.tuple c) :=
  .tuple _ _ (by simpa using h.1) fun i v v' hv hv' => h.2 i v v' (by simpa using hv) (by simpa using hv')

/-! Heaps. -/
def RowR (r : Rn) (cs : List Value) (own : Bool) (o : Obj) (p : Pl) : Prop :=
  ∃ (c : Array Value) (elem : TypeId) (fr : Nat × Nat), o = .cells c elem fr ∧ (∀ (i : Nat) (v : Value), cs[i]? = some v → ∃ v', c[p.off + i]? = some v' ∧ VR r v v') ∧ (own = true → fr = (0, 0) ∧ p.off + p.tot ≤ c.size)

def MapR (r : Rn) (es : List (Value × Value)) (o : Obj) : Prop :=
  ∃ (en : Array MapEntry) (clock : Nat), o = .map en clock ∧ en.size = es.length ∧ ∀ (i : Nat) (k v : Value), es[i]? = some (k, v) → ∃ e : MapEntry, en[i]? = some e ∧ VR r k e.key ∧ VR r v e.val

def ObjR (r : Rn) (ob : CObj) (o : Option Obj) (p : Pl) : Prop :=
  match ob, o with
  | .row cs own, some o => RowR r cs own o p
  | .map es, some o => MapR r es o
  | _, _ => False

theorem RowR.mono {r r' : Rn} (hl : Later r r') {cs : List Value} {own : Bool} {o : Obj} {p : Pl} (h : RowR r cs own o p) : RowR r' cs own o p := by
  obtain ⟨c, e, f, h1, h2, h3⟩ := h
  exact ⟨c, e, f, h1, fun i v hv => let ⟨v', a, b⟩ := h2 i v hv; ⟨v', a, b.mono hl⟩, h3⟩
theorem MapR.mono {r r' : Rn} (hl : Later r r') {es : List (Value × Value)} {o : Obj} (h : MapR r es o) : MapR r' es o := by
  obtain ⟨c, e, h1, h2, h3⟩ := h
  exact ⟨c, e, h1, h2, fun i k v hv => let ⟨x, a, b, d⟩ := h3 i k v hv; ⟨x, a, b.mono hl, d.mono hl⟩⟩
theorem ObjR.mono {r r' : Rn} (hl : Later r r') {ob : CObj} {o : Option Obj} {p : Pl} (h : ObjR r ob o p) : ObjR r' ob o p := by
  unfold ObjR at *
  split at h
  · exact h.mono hl
  · exact MapR.mono hl h
  · exact h

def RO (W : CW) (b : Nat) : Prop := ∃ cs, W.get b = some (.row cs false)

structure Sim (r : Rn) (W : CW) (w : World) : Prop where
  n : r.N = W.next
  obj : ∀ b p, r.f b = some p → r.has b ∧ ∃ ob, W.get b = some ob ∧ ObjR r ob (w.heap[p.blk]?) p
  tot : ∀ b ob, r.has b → W.get b = some ob → ob = .dead ∨ ∃ x, r.f b = some x
  inj : ∀ b b' p p', r.f b = some p → r.f b' = some p' → p.blk = p'.blk → b = b' ∨ (RO W b ∧ RO W b')
  fresh : ∀ b, W.next ≤ b → W.get b = none
  here : ∀ b, r.has b → W.get b ≠ none

def LE.blk : LE → Nat
  | .at_ b _ _ => b
  | .all b => b

def touched (nl : List LE) (b : Nat) : Prop := ∃ e ∈ nl, e.blk = b

theorem touched_append {nl nl' : List LE} {b : Nat} : touched (nl ++ nl') b ↔ touched nl b ∨ touched nl' b := by
  simp [touched, List.mem_append, or_and_right, exists_or]

/-- What of a world no run of ours turns. -/
def Stays (w w' : World) : Prop := w'.os = w.os ∧ w'.output = w.output ∧ ∀ a, a.block < w.heap.size → w'.frozen? a = w.frozen? a

theorem Stays.refl (w : World) : Stays w w := ⟨rfl, rfl, fun _ _ => rfl⟩
theorem Stays.trans {w w1 w2 : World} (h : Stays w w1) (h' : Stays w1 w2) (hs : w.heap.size ≤ w1.heap.size) : Stays w w2 := ⟨h'.1.trans h.1, h'.2.1.trans h.2.1, fun a ha => (h'.2.2 a (Nat.lt_of_lt_of_le ha hs)).trans (h.2.2 a ha)⟩

/-- What a run does to the model's heap, told by what it wrote. -/
structure Mv (r : Rn) (w : World) (nl : List LE) (r' : Rn) (w' : World) : Prop where
  later : Later r r'
  size : w.heap.size ≤ w'.heap.size
  fr : ∀ blk, blk < w.heap.size → (∀ b p, r.has b → r.f b = some p → p.blk = blk → ¬ touched nl b) → w'.heap[blk]? = w.heap[blk]?
  new : ∀ b, ¬ r.has b → ∀ p, r'.f b = some p → w.heap.size ≤ p.blk ∨ ∃ b0 p0, r.has b0 ∧ r.f b0 = some p0 ∧ p0.blk = p.blk ∧ touched nl b0 ∧ r'.f b0 = none
  rest : Stays w w'

theorem Mv.refl {r : Rn} {w : World} (h : ∀ b, ¬ r.has b → r.f b = none) : Mv r w [] r w :=
  ⟨Later.refl r, Nat.le_refl _, fun _ _ _ => rfl, fun b hb p hx => (by rw [h b hb] at hx; cases hx), Stays.refl w⟩

theorem Later.gone {r r' : Rn} (h : Later r r') {b : Nat} (hb : r.has b) (hn : r.f b = none) : r'.f b = none := by
  cases hq : r'.f b with
  | none => rfl
  | some x => have := h.old b hb x hq; rw [hn] at this; cases this

theorem Mv.trans {r r1 r2 : Rn} {w w1 w2 : World} {nl nl' : List LE} (h : Mv r w nl r1 w1) (h' : Mv r1 w1 nl' r2 w2) : Mv r w (nl' ++ nl) r2 w2 := by
  refine ⟨h.later.trans h'.later, Nat.le_trans h.size h'.size, fun blk hb hn => ?_, fun b hb p hx => ?_, h.rest.trans h'.rest h.size⟩
  · rw [h'.fr blk (Nat.lt_of_lt_of_le hb h.size) fun b p hlt hx hp ht => ?_, h.fr blk hb fun b p hlt hx hp ht => hn b p hlt hx hp (touched_append.2 (.inr ht))]
    by_cases hbr : r.has b
    · exact hn b p hbr (h.later.old b hbr _ hx) hp (touched_append.2 (.inl ht))
    · rcases h.new b hbr p hx with h1 | ⟨b0, p0, h0, h1, h1', h2, _⟩
      · omega
      · exact hn b0 p0 h0 h1 (h1'.trans hp) (touched_append.2 (.inr h2))
  · by_cases hb1 : r1.has b
    · rcases h.new b hb p (h'.later.old b hb1 _ hx) with h1 | ⟨b0, p0, h0, h1, h1', h2, h3⟩
      · exact .inl h1
      · exact .inr ⟨b0, p0, h0, h1, h1', touched_append.2 (.inr h2), h'.later.gone (h.later.has _ h0) h3⟩
    · rcases h'.new b hb1 p hx with h1 | ⟨b0, p0, h0, h1, h1', h2, h3⟩
      · exact .inl (Nat.le_trans h.size h1)
      · by_cases hb0 : r.has b0
        · exact .inr ⟨b0, p0, hb0, h.later.old b0 hb0 _ h1, h1', touched_append.2 (.inl h2), h3⟩
        · rcases h.new b0 hb0 p0 h1 with h4 | ⟨b00, p00, h5, h6, h6', h7, h8⟩
          · exact .inl (by omega)
          · exact .inr ⟨b00, p00, h5, h6, h6'.trans h1', touched_append.2 (.inr h7), h'.later.gone (h.later.has _ h5) h8⟩

/-! Frames. -/
structure AR (r : Rn) (N : Nat) (a : CAct) (act : Act) : Prop where
  size : N ≤ act.tmps.size
  defers : act.defers = []
  tmp : ∀ t v, a.get t = some v → ∃ v', act.tmps[t]? = some v' ∧ VR r v v'

theorem AR.mono {r r' : Rn} (hl : Later r r') {N : Nat} {a : CAct} {act : Act} (h : AR r N a act) : AR r' N a act :=
  ⟨h.size, h.defers, fun t v hv => let ⟨v', x, y⟩ := h.tmp t v hv; ⟨v', x, y.mono hl⟩⟩

theorem AR.put {r : Rn} {N : Nat} {a : CAct} {act : Act} (h : AR r N a act) {d : Option Nat} (hd : dstOk N d = true) {v v' : Value} (hv : VR r v v') :
    AR r N (putd a d v) (act.put d v') := by
  cases d with
  | none => exact h
  | some d =>
    simp [dstOk] at hd
    refine ⟨by simpa [Act.put] using h.size, h.defers, fun t x hx => ?_⟩
    simp only [putd, Tr.get_set] at hx
    have hs := h.size
    by_cases ht : t = d
    · subst ht
      simp at hx
      subst hx
      have hlt : t < act.tmps.size := by omega
      exact ⟨v', by simp [Act.put, hlt], hv⟩
    · rw [if_neg ht] at hx
      obtain ⟨y, h1, h2⟩ := h.tmp t x hx
      exact ⟨y, by simp [Act.put, Array.getElem?_setIfInBounds_ne (Ne.symm ht), h1], h2⟩

theorem rxc_ev {r : Rn} {N : Nat} {a : CAct} {act : Act} (h : AR r N a act) {o : Operand} {x : RX} (hx : rxc o = some x) {v : Value} (hv : x.ev a = some v) :
    VR r v (act.eval o) := by
  cases o with
  | tmp t =>
    simp [rxc, rx] at hx
    subst hx
    obtain ⟨v', h1, h2⟩ := h.tmp t v hv
    simpa [Act.eval, h1] using h2
  | const c =>
    simp [rxc, rx] at hx
    obtain ⟨hc, rfl⟩ := hx
    simp [RX.ev] at hv
    subst hv
    exact VR.of_okC r hc
  | global g => simp [rxc, rx] at hx
  | func f =>
    simp [rxc, rx, okC, okC1] at hx
    subst hx
    simp [RX.ev] at hv
    subst hv
    exact .func _ _ _ _ _ rfl rfl (fun i v v' hv => by simp at hv) (fun i v v' hv => by simp at hv)

theorem rxs_evs {r : Rn} {N : Nat} {a : CAct} {act : Act} (h : AR r N a act) : ∀ (l : List Operand) (xs : List RX) (vs : List Value), rxs l = some xs → evs a xs = some vs →
    VRL r vs (l.map act.eval)
  | [], xs, vs, hx, hv => by
    simp [rxs] at hx; subst hx; simp [evs] at hv; subst hv; exact VRL.nil r
  | o :: l, xs, vs, hx, hv => by
    simp only [rxs] at hx
    split at hx
    · rename_i x ys h1 h2
      cases hx
      simp only [evs] at hv
      split at hv
      · rename_i u us h3 h4
        cases hv
        exact VRL.cons (rxc_ev h h1 h3) (rxs_evs h l ys us h2 h4)
      · cases hv
    · cases hx

end Go.Can
