/-
  Canonical code made short: more rewriting words: function values, maps, single appends.
-/
import Derived.Test.YtcilkncmhmckmaaGreatCanZB
namespace Go.Can
open Go
set_option linter.all false

section
variable {P : Program} {a : CAct} {W : CW}
def callV (W : CW) (f : Option Value) (l : Option (List Value)) : Option (RNext × CW) :=
  match f, l with
  | some (.func (.func g) first cap), some vs => some (.enter g (first.toList ++ (vs ++ cap.toList)), W)
  | _, _ => none
theorem callV_s {g : FuncId} {first cap : Array Value} {vs : List Value} : callV W (some (.func (.func g) first cap)) (some vs) = some (.enter g (first.toList ++ (vs ++ cap.toList)), W) := rfl
theorem xop_call {f : RX} {l : List RX} : xop P a (.call f l) W = callV W (f.ev a) (evs a l) := by
  simp only [xop, callV]
  cases f.ev a with
  | none => rfl
  | some v => cases v <;> cases evs a l <;> first | rfl | (rename_i fn _ _; cases fn <;> rfl) | (rename_i fn _ _ _; cases fn <;> rfl)
def invV (P : Program) (name : String) (W : CW) (r : Option Value) (l : Option (List Value)) : Option (RNext × CW) :=
  match r, l with
  | some (.iface t v), some vs => match cmethod P t name with
    | some f => some (.enter f (v :: vs), W)
    | none => none
  | _, _ => none
def enterO (f : Option FuncId) (vs : List Value) (W : CW) : Option (RNext × CW) :=
  match f with
  | some f => some (.enter f vs, W)
  | none => none
theorem enterO_s {f : FuncId} {vs : List Value} : enterO (some f) vs W = some (.enter f vs, W) := rfl
theorem invV_s {name : String} {t : TypeId} {v : Value} {vs : List Value} : invV P name W (some (.iface t v)) (some vs) = enterO (cmethod P t name) (v :: vs) W := by
  simp only [invV, enterO]; try (cases cmethod P t name <;> rfl)
theorem xop_invoke {name : String} {r : RX} {l : List RX} : xop P a (.invoke name r l) W = invV P name W (r.ev a) (evs a l) := by
  simp only [xop, invV]
  cases r.ev a with
  | none => rfl
  | some v => cases v <;> cases evs a l <;> rfl
def funcV (fn : Fn) (u v : Option (List Value)) : Option Value :=
  match u, v with
  | some u, some v => some (.func fn u.toArray v.toArray)
  | _, _ => none
theorem funcV_s {fn : Fn} {u v : List Value} : funcV fn (some u) (some v) = some (.func fn u.toArray v.toArray) := rfl
theorem pop_func {fn : Fn} {first cap : List RX} : pop P a (.func fn first cap) = funcV fn (evs a first) (evs a cap) := by
  simp only [pop, funcV]; cases evs a first <;> cases evs a cap <;> rfl
def buildV (l : Option (List Value)) : Option Value :=
  match l with
  | some cs => some (.agg cs.toArray)
  | none => none
theorem buildV_s {l : List Value} : buildV (some l) = some (.agg l.toArray) := rfl
theorem pop_build {z : List Value} {ps : List (Nat × Nat × RX)} : pop P a (.build z ps) = buildV (fill a z ps) := by
  simp only [pop, buildV]; cases fill a z ps <;> rfl
theorem fill_n {cs : List Value} : fill a cs [] = some cs := rfl
def fillV (a : CAct) (cs : List Value) (off size : Nat) (v : Option Value) (rest : List (Nat × Nat × RX)) : Option (List Value) :=
  match v with
  | none => none
  | some v => if (cells v).length = size then
      match puts cs off (cells v) with
      | some cs' => fill a cs' rest
      | none => none
    else none
def fillR (a : CAct) (l : Option (List Value)) (rest : List (Nat × Nat × RX)) : Option (List Value) :=
  match l with
  | some cs => fill a cs rest
  | none => none
theorem fillR_s {cs : List Value} {rest : List (Nat × Nat × RX)} : fillR a (some cs) rest = fill a cs rest := rfl
theorem fillV_s {cs : List Value} {off size : Nat} {v : Value} {rest : List (Nat × Nat × RX)} : fillV a cs off size (some v) rest = if (cells v).length = size then fillR a (puts cs off (cells v)) rest else none := by
  simp only [fillV, fillR]; try (split <;> rfl)
theorem fill_c {cs : List Value} {off size : Nat} {x : RX} {rest : List (Nat × Nat × RX)} : fill a cs ((off, size, x) :: rest) = fillV a cs off size (x.ev a) rest := by
  simp only [fill, fillV]; cases x.ev a <;> rfl
def litV (l : Option (List Value)) : Option CObj :=
  match l with
  | some cs => some (.row cs true)
  | none => none
theorem litV_s {cs : List Value} : litV (some cs) = some (.row cs true) := rfl
theorem aobj_new {z : List Value} : aobj a (.new z) = some (.row z true) := rfl
theorem aobj_map : aobj a .mkmap = some (.map []) := rfl
theorem aobj_lit {n : Nat} {z : List Value} {ps : List (Nat × Nat × RX)} : aobj a (.lit n z ps) = litV (fill a z ps) := by
  simp only [aobj, litV]; cases fill a z ps <;> rfl
def boxV (v : Option Value) : Option CObj :=
  match v with
  | some v => some (.row (cells v) true)
  | none => none
theorem boxV_s {v : Value} : boxV (some v) = some (.row (cells v) true) := rfl
theorem aobj_box {x : RX} : aobj a (.box x) = boxV (x.ev a) := by simp only [aobj, boxV]; cases x.ev a <;> rfl
theorem aval_new {b : Nat} {z : List Value} : aval a b (.new z) = .pointer (some ⟨b, 0, none⟩) := rfl
theorem aval_box {b : Nat} {x : RX} : aval a b (.box x) = .pointer (some ⟨b, 0, none⟩) := rfl
theorem aval_lit {b n : Nat} {z : List Value} {ps : List (Nat × Nat × RX)} : aval a b (.lit n z ps) = .slice (some ⟨b, 0, some 1⟩) n n := rfl
theorem aval_map {b : Nat} : aval a b .mkmap = .map (some b) := rfl
def mkO (bytes : Nat) (z : List Value) (l c : Option Value) : Option CObj :=
  match l, c with
  | some (.int _ l), some (.int _ c) => if 0 ≤ l ∧ l ≤ c ∧ c < 2 ^ 40 ∧ c.toNat * bytes ≤ 2 ^ 40 then some (.row (reps c.toNat z) true) else none
  | _, _ => none
theorem mkO_s {bytes : Nat} {z : List Value} {k k' : IntKind} {l c : Int} : mkO bytes z (some (.int k l)) (some (.int k' c)) = if 0 ≤ l ∧ l ≤ c ∧ c < 2 ^ 40 ∧ c.toNat * bytes ≤ 2 ^ 40 then some (.row (reps c.toNat z) true) else none := rfl
theorem aobj_mk {bytes : Nat} {z : List Value} {l c : RX} : aobj a (.mkslice bytes z l c) = mkO bytes z (l.ev a) (c.ev a) := by
  simp only [aobj, mkO]
  cases l.ev a with
  | none => rfl
  | some u => cases c.ev a with
    | none => cases u <;> rfl
    | some v => cases u <;> cases v <;> rfl
def mkV (b : Nat) (l c : Option Value) : Value :=
  match l, c with
  | some (.int _ l), some (.int _ c) => .slice (some ⟨b, 0, some 1⟩) l.toNat c.toNat
  | _, _ => .nilIface
theorem mkV_s {b : Nat} {k k' : IntKind} {l c : Int} : mkV b (some (.int k l)) (some (.int k' c)) = .slice (some ⟨b, 0, some 1⟩) l.toNat c.toNat := rfl
theorem aval_mk {b bytes : Nat} {z : List Value} {l c : RX} : aval a b (.mkslice bytes z l c) = mkV b (l.ev a) (c.ev a) := by
  simp only [aval, mkV]
  cases l.ev a with
  | none => rfl
  | some u => cases c.ev a with
    | none => cases u <;> rfl
    | some v => cases u <;> cases v <;> rfl

theorem vMax_i {k : IntKind} {m n : Int} : vMax (.int k m) (.int k n) = some (.int k (if n > m then n else m)) := by simp [vMax]
theorem vMin_i {k : IntKind} {m n : Int} : vMin (.int k m) (.int k n) = some (.int k (if n < m then n else m)) := by simp [vMin]
end

/-! Maps from integers. -/
def encM (v : Int → Value) (m : List (Int × Int)) : List (Value × Value) := m.map fun x => (.int .i64 x.1, v x.2)

def lookI (m : List (Int × Int)) (k : Int) : Option Int := (m.find? fun x => x.1 == k).map (·.2)

def putM : List (Int × Int) → Int → Int → List (Int × Int)
  | [], k, v => [(k, v)]
  | (k', v') :: m, k, v => if k' = k then (k', v) :: m else (k', v') :: putM m k v

theorem look_putM (m : List (Int × Int)) (k v j : Int) : lookI (putM m k v) j = if j = k then some v else lookI m j := by
  induction m with
  | nil => simp only [putM, lookI]; by_cases h : j = k <;> simp [h]; try (intro e; exact absurd e.symm h)
  | cons x m ih =>
    obtain ⟨k', v'⟩ := x
    simp only [putM]
    by_cases h : k' = k
    · subst h
      rw [if_pos rfl]
      by_cases hj : j = k'
      · subst hj; simp [lookI]
      · have : ¬ k' = j := fun e => hj e.symm
        simp [lookI, hj, this]
    · rw [if_neg h]
      by_cases hj : k' = j
      · subst hj; simp [lookI, h]
      · have := ih
        simp only [lookI] at this ⊢
        simp only [List.find?_cons, show (k' == j) = false by simpa using hj]
        exact this

theorem mapFind_enc (v : Int → Value) (k x : Int) : ∀ (m : List (Int × Int)) (i : Nat), (lookI m k = none ∧ mapFind .i64 k (encM v m) i = some none ∧ encM v (putM m k x) = encM v m ++ [(.int .i64 k, v x)]) ∨
    ∃ j u, lookI m k = some u ∧ mapFind .i64 k (encM v m) i = some (some (i + j, v u)) ∧ encM v (putM m k x) = (encM v m).set j (.int .i64 k, v x)
  | [], i => .inl ⟨rfl, rfl, rfl⟩
  | (k', u) :: m, i => by
    by_cases h : k = k'
    · subst h
      exact .inr ⟨0, u, by simp [lookI], by simp [encM, mapFind], by simp [encM, putM]⟩
    · have h' : ¬ k' = k := fun e => h e.symm
      rcases mapFind_enc v k x m (i + 1) with ⟨h1, h2, h3⟩ | ⟨j, w, h1, h2, h3⟩
      · left
        refine ⟨by simpa [lookI, h'] using h1, ?_, ?_⟩
        · simpa [encM, mapFind, h] using h2
        · simp only [putM, if_neg h']
          show (Value.int .i64 k', v u) :: encM v (putM m k x) = _
          rw [h3]; rfl
      · right
        refine ⟨j + 1, w, by simpa [lookI, h'] using h1, ?_, ?_⟩
        · have : i + (j + 1) = i + 1 + j := by omega
          rw [this]; simpa [encM, mapFind, h] using h2
        · simp only [putM, if_neg h']
          show (Value.int .i64 k', v u) :: encM v (putM m k x) = _
          rw [h3]; rfl

theorem vLook_enc {W : CW} {r : Nat} {v : Int → Value} {m : List (Int × Int)} (h : W.get r = some (.map (encM v m))) (z : Value) (k : Int) : vLook W z false (.map (some r)) (.int .i64 k) = some (((lookI m k).map v).getD z) := by
  simp only [vLook, h]
  rcases mapFind_enc v k 0 m 0 with ⟨h1, h2, _⟩ | ⟨j, u, h1, h2, _⟩
  · simp [h1, h2]
  · simp [h1, h2]

def mputO (W : CW) (m k x : Option Value) : Option (RNext × CW) :=
  match m, k, x with
  | some (.map (some r)), some (.int kk k), some v => match W.get r with
    | some (.map es) => match mapFind kk k es 0 with
      | some (some (i, _)) => some (.value undefV, W.put r (.map (es.set i (.int kk k, v))))
      | some none => some (.value undefV, W.put r (.map (es ++ [(.int kk k, v)])))
      | none => none
    | _ => none
  | _, _, _ => none
theorem xop_mput {P : Program} {a : CAct} {W : CW} {m k x : RX} : xop P a (.mput m k x) W = mputO W (m.ev a) (k.ev a) (x.ev a) := rfl

theorem mput_enc {W : CW} {r : Nat} {v : Int → Value} {m : List (Int × Int)} (h : W.get r = some (.map (encM v m))) (k x : Int) : mputO W (some (.map (some r))) (some (.int .i64 k)) (some (v x)) = some (.value undefV, W.put r (.map (encM v (putM m k x)))) := by
  simp only [mputO, h]
  rcases mapFind_enc v k x m 0 with ⟨h1, h2, h3⟩ | ⟨j, u, h1, h2, h3⟩
  · simp only [h2, h3]
  · simp only [h2, h3, Nat.zero_add]

/-! Appending to a slice of one's own. -/
/-- A slice that was made by appending, or nil; its block is not below B. -/
def AppI (B : Nat) (W : CW) (k : IntKind) (v : Value) (xs : List Int) : Prop :=
  (v = .slice none 0 0 ∧ xs = []) ∨ ∃ b, v = .slice (some ⟨b, 0, some 3⟩) xs.length xs.length ∧ B ≤ b ∧ b < W.next ∧ W.get b = some (.row (xs.map (.int k)) true)

/-- What is below B stays. -/
def Low (B : Nat) (W W' : CW) : Prop := W.next ≤ W'.next ∧ ∀ b, b < B → W'.get b = W.get b
theorem Low.pres {A W W' : CW} {B : Nat} (h : Low B W W') (hp : Pres A W) (hB : A.next ≤ B) : Pres A W' := ⟨Nat.le_trans hp.1 h.1, fun b hb => by rw [h.2 b (by omega), hp.2 b hb]⟩
theorem Pres.low {W W' : CW} {B : Nat} (h : Pres W W') (hB : B ≤ W.next) : Low B W W' := ⟨h.1, fun b hb => h.2 b (by omega)⟩
theorem Low.trans {A B C : CW} {n : Nat} (h : Low n A B) (k : Low n B C) : Low n A C := ⟨Nat.le_trans h.1 k.1, fun b hb => by rw [k.2 b hb, h.2 b hb]⟩

theorem AppI.own {A W : CW} {B : Nat} {k : IntKind} {v : Value} {xs : List Int} (h : AppI B W k v xs) (hB : A.next ≤ B) : OwnI A W k v xs := by
  rcases h with ⟨rfl, rfl⟩ | ⟨b, h, h1, h2⟩
  · exact .inl ⟨rfl, SlI.nil W k⟩
  · exact .inr ⟨b, some 3, h, by omega, h2⟩

theorem AppI.sl {W : CW} {B : Nat} {k : IntKind} {v : Value} {xs : List Int} (h : AppI B W k v xs) : SlI W k v xs := by
  rcases h with ⟨rfl, rfl⟩ | ⟨b, rfl, h1, h2, h3⟩
  · exact SlI.nil W k
  · exact .inr ⟨b, 0, some 3, _, rfl, Nat.le_refl _, h2, .inr ⟨_, _, h3, cut_all _⟩⟩

theorem AppI.pres {W W' : CW} {B : Nat} {k : IntKind} {v : Value} {xs : List Int} (h : AppI B W k v xs) (hp : Pres W W') : AppI B W' k v xs := by
  rcases h with h | ⟨b, rfl, h1, h2, h3⟩
  · exact .inl h
  · exact .inr ⟨b, rfl, h1, Nat.lt_of_lt_of_le h2 hp.1, by rw [hp.2 b h2]; exact h3⟩

theorem AppI.put {W : CW} {B c : Nat} {o : CObj} {k : IntKind} {v : Value} {xs : List Int} (h : AppI B W k v xs) (hc : c < B) : AppI B (W.put c o) k v xs := by
  rcases h with h | ⟨b, rfl, h1, h2, h3⟩
  · exact .inl h
  · exact .inr ⟨b, rfl, h1, h2, by rw [CW.get_put, if_neg (by omega)]; exact h3⟩

theorem all_one_ints (k : IntKind) (xs : List Int) : (xs.map (Value.int k)).all Can.one = true := by
  simp [Can.one]

/-- Something is appended. -/
theorem app_more {W : CW} {B : Nat} {k : IntKind} {by_ : Nat} {v x : Value} {xs ys : List Int} (hB : B ≤ W.next) (hv : AppI B W k v xs) (hs : srcRow 1 x W = some (ys.length, ys.map (.int k))) (hn : (xs.length + ys.length) * by_ ≤ 2 ^ 40) (hn2 : xs.length + ys.length ≤ 2 ^ 40) :
    ∃ r W', capp 1 by_ v x W = some (r, W') ∧ Low B W W' ∧ AppI B W' k r (xs ++ ys) := by
  rcases hv with ⟨rfl, rfl⟩ | ⟨b, rfl, h1, h2, h3⟩
  · simp only [capp, hs, List.length_nil, Nat.zero_add] at hn hn2 ⊢
    rw [if_pos ⟨hn, hn2⟩]
    by_cases h0 : ys.length = 0
    · have : ys = [] := List.length_eq_zero_iff.1 h0
      subst this
      exact ⟨_, _, rfl, ⟨Nat.le_refl _, fun b _ => rfl⟩, .inl ⟨rfl, rfl⟩⟩
    · simp only [if_neg h0]
      refine ⟨_, _, rfl, ⟨by simp, fun b hb => ?_⟩, .inr ⟨W.next, by simp, hB, by simp, by simp [CW.get_push]⟩⟩
      rw [CW.get_push, if_neg (by omega)]
  · simp only [capp, hs]
    rw [if_pos ⟨hn, hn2⟩]
    by_cases h0 : ys.length = 0
    · have : ys = [] := List.length_eq_zero_iff.1 h0
      subst this
      simp only [List.length_nil, if_true, Nat.le_refl]
      exact ⟨_, _, rfl, ⟨Nat.le_refl _, fun b _ => rfl⟩, by rw [List.append_nil]; exact .inr ⟨b, rfl, h1, h2, h3⟩⟩
    · have h4 : ¬ xs.length + ys.length ≤ xs.length := by omega
      have hc : cut 0 (xs.length * 1) (xs.map (Value.int k)) = some (xs.map (Value.int k)) := by
        have := cut_all (xs.map (Value.int k)); rw [List.length_map] at this; rw [Nat.mul_one]; exact this
      simp only [if_neg h0, h3, if_neg h4, hc]
      rw [if_neg (by simp), if_pos ⟨trivial, by simp, all_one_ints k ys⟩]
      refine ⟨_, _, rfl, ⟨by simp, fun c hc => ?_⟩, .inr ⟨W.next, by simp, hB, by simp, by simp [CW.get_push]⟩⟩
      rw [CW.get_push, if_neg (by simp; omega), CW.get_put, if_neg (by omega)]

/-- Two slices do not share a block. -/
def Dis (u v : Value) : Prop := ∀ q n c q' n' c', u = .slice (some q) n c → v = .slice (some q') n' c' → q.block ≠ q'.block

theorem Dis.symm {u v : Value} (h : Dis u v) : Dis v u := fun q n c q' n' c' h1 h2 e => h q' n' c' q n c h2 h1 e.symm

/-- Something is appended to one of two slices. -/
theorem app_two {W : CW} {B : Nat} {k k' : IntKind} {by_ : Nat} {u v x : Value} {xs ys zs : List Int} (hB : B ≤ W.next) (hu : AppI B W k u xs) (hv : AppI B W k' v zs) (hd : Dis u v) (hs : srcRow 1 x W = some (ys.length, ys.map (.int k))) (hn : (xs.length + ys.length) * by_ ≤ 2 ^ 40) (hn2 : xs.length + ys.length ≤ 2 ^ 40) :
    ∃ r W', capp 1 by_ u x W = some (r, W') ∧ Low B W W' ∧ AppI B W' k r (xs ++ ys) ∧ AppI B W' k' v zs ∧ Dis r v := by
  have fresh : ∀ (W' : CW) (n c : Nat) (sp : Option Nat), Dis (.slice (some ⟨W.next, 0, sp⟩) n c) v := fun W' n c sp q a b q' a' b' h1 h2 => by
    rcases hv with ⟨rfl, _⟩ | ⟨b2, rfl, g1, g2, g3⟩
    · cases h2
    · cases h1; cases h2; show W.next ≠ b2; omega
  rcases hu with ⟨rfl, rfl⟩ | ⟨b, rfl, h1, h2, h3⟩
  · simp only [capp, hs, List.length_nil, Nat.zero_add] at hn hn2 ⊢
    rw [if_pos ⟨hn, hn2⟩]
    by_cases h0 : ys.length = 0
    · have : ys = [] := List.length_eq_zero_iff.1 h0
      subst this
      exact ⟨_, _, rfl, ⟨Nat.le_refl _, fun b _ => rfl⟩, .inl ⟨rfl, rfl⟩, hv, hd⟩
    · simp only [if_neg h0]
      refine ⟨_, _, rfl, ⟨by simp, fun b hb => ?_⟩, .inr ⟨W.next, by simp, hB, by simp, by simp [CW.get_push]⟩, hv.pres ((Pres.refl _).push _), fresh W _ _ _⟩
      rw [CW.get_push, if_neg (by omega)]
  · simp only [capp, hs]
    rw [if_pos ⟨hn, hn2⟩]
    by_cases h0 : ys.length = 0
    · have : ys = [] := List.length_eq_zero_iff.1 h0
      subst this
      simp only [List.length_nil, if_true, Nat.le_refl]
      exact ⟨_, _, rfl, ⟨Nat.le_refl _, fun b _ => rfl⟩, by rw [List.append_nil]; exact .inr ⟨b, rfl, h1, h2, h3⟩, hv, hd⟩
    · have h4 : ¬ xs.length + ys.length ≤ xs.length := by omega
      have hc : cut 0 (xs.length * 1) (xs.map (Value.int k)) = some (xs.map (Value.int k)) := by
        have := cut_all (xs.map (Value.int k)); rw [List.length_map] at this; rw [Nat.mul_one]; exact this
      simp only [if_neg h0, h3, if_neg h4, hc]
      rw [if_neg (by simp), if_pos ⟨trivial, by simp, all_one_ints k ys⟩]
      refine ⟨_, _, rfl, ⟨by simp, fun c hc => ?_⟩, .inr ⟨W.next, by simp, hB, by simp, by simp [CW.get_push]⟩, ?_, fresh W _ _ _⟩
      · rw [CW.get_push, if_neg (by simp; omega), CW.get_put, if_neg (by omega)]
      · rcases hv with ⟨rfl, rfl⟩ | ⟨b2, rfl, g1, g2, g3⟩
        · exact .inl ⟨rfl, rfl⟩
        · have hne := hd _ _ _ _ _ _ rfl rfl
          refine .inr ⟨b2, rfl, g1, by simp; omega, ?_⟩
          rw [CW.get_push, if_neg (by simp; omega), CW.get_put, if_neg (fun e => hne e.symm)]
          exact g3

/-- One cell that was just made, as what is appended. -/
theorem src_one {W : CW} {b : Nat} {sp : Option Nat} {c : Nat} {k : IntKind} {x : Int} {own : Bool} (h : W.get b = some (.row [.int k x] own)) : srcRow 1 (.slice (some ⟨b, 0, sp⟩) 1 c) W = some ([x].length, [x].map (.int k)) := by
  simp [srcRow, h, cut]

end Go.Can
