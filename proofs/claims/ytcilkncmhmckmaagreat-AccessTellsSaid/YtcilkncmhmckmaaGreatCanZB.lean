/-
  Canonical code made short: words on heaps and slices for symbolic runs.
-/
import Derived.Test.YtcilkncmhmckmaaGreatCanZA
namespace Go.Can
open Go
set_option linter.all false

/-- Nothing that was there is turned. -/
def Pres (W W' : CW) : Prop := W.next ≤ W'.next ∧ ∀ b, b < W.next → W'.get b = W.get b

theorem Pres.refl (W : CW) : Pres W W := ⟨Nat.le_refl _, fun _ _ => rfl⟩
theorem Pres.trans {A B C : CW} (h : Pres A B) (k : Pres B C) : Pres A C := ⟨Nat.le_trans h.1 k.1, fun b hb => by rw [k.2 b (Nat.lt_of_lt_of_le hb h.1), h.2 b hb]⟩
theorem Pres.push {A W : CW} (h : Pres A W) (o : CObj) : Pres A (W.push o) := ⟨Nat.le_succ_of_le h.1, fun b hb => by
  have := h.1
  rw [CW.get_push, if_neg (by omega)]; exact h.2 b hb⟩
theorem Pres.reserve {A W : CW} (h : Pres A W) (k : Nat) : Pres A (W.reserve k) := ⟨by have := h.1; simp; omega, fun b hb => h.2 b hb⟩
theorem Pres.relog {A W : CW} (h : Pres A W) (l : List LE) : Pres A (W.relog l) := h
theorem Pres.putR {A W : CW} (h : Pres A W) {b : Nat} (hb : A.next ≤ b) (cs : List Value) (lo n : Nat) : Pres A (W.putR b cs lo n) := ⟨h.1, fun c hc => by
  rw [CW.get_putR, if_neg (by omega)]; exact h.2 c hc⟩
theorem Pres.put {A W : CW} (h : Pres A W) {b : Nat} (hb : A.next ≤ b) (o : CObj) : Pres A (W.put b o) := ⟨h.1, fun c hc => by
  rw [CW.get_put, if_neg (by omega)]; exact h.2 c hc⟩
theorem Pres.bear {A W : CW} (h : Pres A W) {b : Nat} (hb : A.next ≤ b) (o : CObj) : Pres A (W.bear b o) := ⟨h.1, fun c hc => by
  rw [CW.get_bear, if_neg (by omega)]; exact h.2 c hc⟩

theorem cut_some {off n : Nat} {cs l : List Value} (h : cut off n cs = some l) : l = (cs.drop off).take n ∧ l.length = n := by
  unfold cut at h
  split at h
  · rename_i hl; cases h; exact ⟨rfl, hl⟩
  · cases h

theorem cut_get {off n : Nat} {cs l : List Value} (h : cut off n cs = some l) {i : Nat} (hi : i < n) : cs[off + i]? = l[i]? := by
  obtain ⟨rfl, _⟩ := cut_some h
  rw [List.getElem?_take, if_pos hi, List.getElem?_drop]

theorem cut_cut {off n : Nat} {cs l : List Value} (h : cut off n cs = some l) {i m : Nat} (hi : i + m ≤ n) : cut (off + i) m cs = some ((l.drop i).take m) := by
  obtain ⟨rfl, hl⟩ := cut_some h
  have e : ((cs.drop (off + i)).take m) = ((((cs.drop off).take n).drop i).take m) := by
    rw [List.drop_take, List.take_take, List.drop_drop, show min m (n - i) = m by omega]
  unfold cut
  rw [if_pos, e]
  rw [e, List.length_take, List.length_drop, hl]; omega

theorem cut_all (l : List Value) : cut 0 l.length l = some l := by simp [cut]

/-- A slice, and its cells. -/
def SlC (W : CW) (v : Value) (len : Nat) (cs : List Value) : Prop :=
  (v = .slice none 0 0 ∧ len = 0 ∧ cs = []) ∨ ∃ b off sp c, v = .slice (some ⟨b, off, sp⟩) len c ∧ len ≤ c ∧ b < W.next ∧ (cs = [] ∨ ∃ row own, W.get b = some (.row row own) ∧ cut off cs.length row = some cs)

section
variable {W W' : CW} {v : Value} {len : Nat} {cs : List Value}

theorem SlC.pres (h : SlC W v len cs) (hp : Pres W W') : SlC W' v len cs := by
  rcases h with h | ⟨b, off, sp, c, h1, h2, h3, h4⟩
  · exact .inl h
  · exact .inr ⟨b, off, sp, c, h1, h2, Nat.lt_of_lt_of_le h3 hp.1, h4.imp id fun ⟨row, own, h5, h6⟩ => ⟨row, own, by rw [hp.2 b h3]; exact h5, h6⟩⟩

theorem SlC.slen (h : SlC W v len cs) : vSlen v = some (.int .i64 len) := by
  rcases h with ⟨rfl, rfl, _⟩ | ⟨b, off, sp, c, rfl, h2⟩ <;> rfl

theorem SlC.src (h : SlC W v len cs) {sz : Nat} (hsz : 0 < sz) (hl : cs.length = len * sz) : srcRow sz v W = some (len, cs) := by
  rcases h with ⟨rfl, rfl, rfl⟩ | ⟨b, off, sp, c, rfl, h2, h3, h4⟩
  · rfl
  · by_cases h0 : len = 0
    · subst h0
      have : cs = [] := by simpa using hl
      subst this
      simp [srcRow]
    · rcases h4 with rfl | ⟨row, own, h5, h6⟩
      · have : len * sz = 0 := by simpa using hl.symm
        rcases Nat.mul_eq_zero.1 this with h | h <;> omega
      · simp only [srcRow, if_neg h0, h5]
        rw [hl] at h6
        rw [h6]

/-- An element of a slice. -/
theorem SlC.at_ (h : SlC W v len cs) {sz : Nat} (hsz : 0 < sz) (hl : cs.length = len * sz) {k : IntKind} {i : Nat} (hi : i < len) :
    ∃ b o row own, vIad none sz v (.int k i) = some (ptr b o) ∧ b < W.next ∧ W.get b = some (.row row own) ∧ cut o sz row = some ((cs.drop (i * sz)).take sz) ∧ ∀ j, j < sz → row[o + j]? = cs[i * sz + j]? := by
  rcases h with ⟨rfl, rfl, rfl⟩ | ⟨b, off, sp, c, rfl, h2, h3, h4⟩
  · omega
  · rcases h4 with rfl | ⟨row, own, h5, h6⟩
    · have : len * sz = 0 := by simpa using hl.symm
      rcases Nat.mul_eq_zero.1 this with h | h <;> omega
    · have e : i * sz + sz ≤ cs.length := by
        rw [hl]
        have : (i + 1) * sz ≤ len * sz := Nat.mul_le_mul_right _ hi
        rw [Nat.add_mul, Nat.one_mul] at this; exact this
      refine ⟨b, off + i * sz, row, own, ?_, h3, h5, cut_cut h6 e, fun j hj => ?_⟩
      · have h7 : (0 : Int) ≤ i ∧ (i : Int) < len := by omega
        simp [vIad, h7, hi]
      · rw [Nat.add_assoc]
        exact cut_get h6 (by omega)
end

/-- A slice of integers. -/
def SlI (W : CW) (k : IntKind) (v : Value) (xs : List Int) : Prop := SlC W v xs.length (xs.map (.int k))

section
variable {W W' : CW} {v : Value} {k : IntKind} {xs : List Int}
theorem SlI.pres (h : SlI W k v xs) (hp : Pres W W') : SlI W' k v xs := SlC.pres h hp
theorem SlI.slen (h : SlI W k v xs) : vSlen v = some (.int .i64 xs.length) := SlC.slen h
theorem SlI.src (h : SlI W k v xs) : srcRow 1 v W = some (xs.length, xs.map (.int k)) := SlC.src h (by omega) (by simp)
theorem SlI.at_ (h : SlI W k v xs) {j : IntKind} {i : Nat} (hi : i < xs.length) : ∃ p, vIad none 1 v (.int j i) = some p ∧ vLoad W none p = some (.int k xs[i]) := by
  obtain ⟨b, o, row, own, h1, h2, h3, h4, h5⟩ := SlC.at_ h (sz := 1) (by omega) (by simp) (k := j) hi
  refine ⟨_, h1, ?_⟩
  have := h5 0 (by omega)
  simp at this
  simp [vLoad, ptr, h3, part, this, hi]
theorem SlI.nil (W : CW) (k : IntKind) : SlI W k (.slice none 0 0) [] := .inl ⟨rfl, rfl, rfl⟩
end

/-- Rows of one size, one behind the other. -/
theorem flat_len {sz : Nat} : ∀ {rows : List (List Value)}, (∀ r ∈ rows, r.length = sz) → rows.flatten.length = rows.length * sz
  | [], _ => by simp
  | r :: rows, h => by
    simp only [List.flatten_cons, List.length_append, List.length_cons, flat_len (rows := rows) fun x hx => h x (by simp [hx]), h r (by simp), Nat.add_mul, Nat.one_mul]
    omega

theorem flat_row {sz : Nat} : ∀ {rows : List (List Value)} {i : Nat} {r : List Value}, (∀ r ∈ rows, r.length = sz) → rows[i]? = some r → (rows.flatten.drop (i * sz)).take sz = r
  | [], i, r, _, h => by simp at h
  | r0 :: rows, 0, r, h, hi => by
    simp at hi; subst hi
    have := h r0 (by simp)
    simp [this.symm]
  | r0 :: rows, i + 1, r, h, hi => by
    have h0 := h r0 (by simp)
    rw [List.flatten_cons, List.drop_append, List.drop_of_length_le (by rw [h0, Nat.add_mul]; omega), List.nil_append, h0, show (i + 1) * sz - sz = i * sz by rw [Nat.add_mul]; omega]
    exact flat_row (fun x hx => h x (by simp [hx])) (by simpa using hi)

/-- A slice of structs. -/
def SlR (W : CW) (sz : Nat) (v : Value) (rows : List (List Value)) : Prop := SlC W v rows.length rows.flatten ∧ ∀ r ∈ rows, r.length = sz

section
variable {W W' : CW} {v : Value} {sz : Nat} {rows : List (List Value)}
theorem SlR.pres (h : SlR W sz v rows) (hp : Pres W W') : SlR W' sz v rows := ⟨SlC.pres h.1 hp, h.2⟩
theorem SlR.slen (h : SlR W sz v rows) : vSlen v = some (.int .i64 rows.length) := SlC.slen h.1
theorem SlR.src (h : SlR W sz v rows) (hsz : 0 < sz) : srcRow sz v W = some (rows.length, rows.flatten) := SlC.src h.1 hsz (flat_len h.2)
theorem SlR.at_ (h : SlR W sz v rows) (hsz : 0 < sz) {j : IntKind} {i : Nat} (hi : i < rows.length) :
    ∃ b o row own, vIad none sz v (.int j i) = some (ptr b o) ∧ b < W.next ∧ W.get b = some (.row row own) ∧ cut o sz row = some rows[i] ∧ ∀ j, j < sz → row[o + j]? = rows[i][j]? := by
  obtain ⟨b, o, row, own, h1, h2, h3, h4, h5⟩ := SlC.at_ h.1 hsz (flat_len h.2) (k := j) hi
  have e := flat_row h.2 (show rows[i]? = some rows[i] by simp [hi])
  rw [e] at h4
  exact ⟨b, o, row, own, h1, h2, h3, h4, fun j hj => cut_get h4 hj⟩
end

/-- A slice of integers of one's own. -/
def OwnI (A W : CW) (k : IntKind) (v : Value) (xs : List Int) : Prop :=
  (xs = [] ∧ SlI W k v []) ∨ ∃ b sp, v = .slice (some ⟨b, 0, sp⟩) xs.length xs.length ∧ A.next ≤ b ∧ b < W.next ∧ W.get b = some (.row (xs.map (.int k)) true)

theorem OwnI.sl {A W : CW} {k : IntKind} {v : Value} {xs : List Int} (h : OwnI A W k v xs) : SlI W k v xs := by
  rcases h with ⟨rfl, h⟩ | ⟨b, sp, rfl, h1, h2, h3⟩
  · exact h
  · refine .inr ⟨b, 0, sp, _, rfl, Nat.le_refl _, h2, .inr ⟨_, _, h3, cut_all _⟩⟩

theorem OwnI.pres {A W W' : CW} {k : IntKind} {v : Value} {xs : List Int} (h : OwnI A W k v xs) (hp : Pres W W') : OwnI A W' k v xs := by
  rcases h with ⟨rfl, h⟩ | ⟨b, sp, rfl, h1, h2, h3⟩
  · exact .inl ⟨rfl, h.pres hp⟩
  · exact .inr ⟨b, sp, rfl, h1, Nat.lt_of_lt_of_le h2 hp.1, by rw [hp.2 b h2]; exact h3⟩

/-- The empty slice that a copy begins with takes what is appended. -/
theorem app_lit {W : CW} {sz by_ : Nat} {x : Value} {n : Nat} {new : List Value} {b : Nat} (hb : W.get b = some (.row [] true)) (hs : srcRow sz x W = some (n, new)) (hn : n * by_ ≤ 2 ^ 40) (hn2 : n ≤ 2 ^ 40) :
    capp sz by_ (.slice (some ⟨b, 0, some 1⟩) 0 0) x W = some (if n = 0 then (.slice (some ⟨b, 0, some 1⟩) 0 0, W) else (.slice (some ⟨W.next, 0, some (2 + sz)⟩) n n, W.push (.row new true))) := by
  simp only [capp, hs, Nat.zero_add]
  rw [if_pos ⟨hn, hn2⟩]
  by_cases h0 : n = 0
  · subst h0; simp
  · have : ¬ n ≤ 0 := by omega
    simp [h0, hb, cut, this]

theorem ask_some {P : Program} {orc : Orc} {f : FuncId} {b : Bool} {W : CW} (h : orc f = some (.word b)) : WpC P orc f [] W fun v W' => v = .bool b ∧ W' = W :=
  ⟨1, .bool b, W, by simp [rcall, ask, h], rfl, rfl⟩

/-! Rewriting words: each takes one step where it knows enough, and nothing else. -/
section
variable {P : Program} {a : CAct} {W : CW}
theorem b1_s {v : Value} {f : Value → Option Value} : b1 (some v) f = f v := rfl
theorem b2_s {u v : Value} {f : Value → Value → Option Value} : b2 (some u) (some v) f = f u v := rfl
theorem bo_f {x : Option Value} {f : Option Value → Option Value} : bo false x f = f none := rfl
theorem bo_t {v : Value} {f : Option Value → Option Value} : bo true (some v) f = f (some v) := rfl
theorem gdV_b {b w : Bool} {x : Option Value} : gdV (some (.bool b)) w x = if b = w then x else some undefV := rfl
theorem gdV_u {w : Bool} {x : Option Value} {l : Array Value} : gdV (some (.tuple l)) w x = some undefV := rfl
theorem pickV_b {b : Bool} {x y : Option Value} : pickV (some (.bool b)) x y = if b then x else y := rfl
theorem musts_nil : (mustsOk P a W [] = true) = True := eq_true rfl
theorem musts_cons {e : EX} {l : List EX} : (mustsOk P a W (e :: l) = true) = ((e.ev P a W).isSome = true ∧ mustsOk P a W l = true) := by simp [mustsOk]
def outP (t : Nat) (v : Option Value) (r : CAct) : CAct :=
  match v with
  | some v => .cons t v r
  | none => r
theorem outP_s {t : Nat} {v : Value} {r : CAct} : outP t (some v) r = .cons t v r := rfl
theorem outF_nil : outF P a W [] = .nil := rfl
theorem outF_cons {t : Nat} {e : EX} {l : List (Nat × EX)} : outF P a W ((t, e) :: l) = outP t (e.ev P a W) (outF P a W l) := by
  simp only [outF, outP]; cases e.ev P a W <;> rfl
theorem keepF_nil : keepF a [] = .nil := rfl
theorem keepF_cons {t : Nat} {l : List Nat} : keepF a (t :: l) = outP t (a.get t) (keepF a l) := by
  simp only [keepF, outP]; cases a.get t <;> rfl
theorem wanted_n : wanted a none = some true := rfl
def wantV (w : Bool) (v : Option Value) : Option Bool :=
  match v with
  | some (.bool b) => some (b == w)
  | some (.tuple _) => some false
  | _ => none
theorem wanted_s {d : Nat} {w : Bool} : wanted a (some (d, w)) = wantV w (a.get d) := rfl
theorem wantV_b {b w : Bool} : wantV w (some (.bool b)) = some (b == w) := rfl
theorem wantV_u {w : Bool} {l : Array Value} : wantV w (some (.tuple l)) = some false := rfl
theorem vSlen_s {q : Option Addr} {n c : Nat} : vSlen (.slice q n c) = some (.int .i64 n) := rfl
theorem vFad_s {k b o : Nat} {sp : Option Nat} : vFad k (.pointer (some ⟨b, o, sp⟩)) = some (.pointer (some ⟨b, o + k, none⟩)) := rfl
theorem vExt_s {i : Nat} {vs : Array Value} : vExt i (.tuple vs) = vs.toList[i]? := rfl
theorem vFld_s {k : Option Nat} {o : Nat} {cs : Array Value} : vFld k o (.agg cs) = part k cs.toList o := rfl
def rowPart (k : Option Nat) (o : Nat) (ob : Option CObj) : Option Value :=
  match ob with
  | some (.row cs _) => part k cs o
  | _ => none
theorem rowPart_s {k : Option Nat} {o : Nat} {cs : List Value} {w : Bool} : rowPart k o (some (.row cs w)) = part k cs o := rfl
theorem vLoad_s {k : Option Nat} {b o : Nat} {sp : Option Nat} : vLoad W k (.pointer (some ⟨b, o, sp⟩)) = rowPart k o (W.get b) := rfl
theorem part_n {cs : List Value} {o : Nat} : part none cs o = cs[o]? := rfl
def aggO (l : Option (List Value)) : Option Value :=
  match l with
  | some l => some (.agg l.toArray)
  | none => none
theorem aggO_s {l : List Value} : aggO (some l) = some (.agg l.toArray) := rfl
theorem part_k {k : Nat} {cs : List Value} {o : Nat} : part (some k) cs o = aggO (cut o k cs) := rfl
theorem vEq_slc_n {q : Option Addr} {neg : Bool} {i j k l : Nat} : vEq .slc neg (.slice none i j) (.slice q k l) = some (.bool (q.isNone != neg)) := rfl
theorem vEq_slc_s {p : Addr} {neg : Bool} {i j k l : Nat} : vEq .slc neg (.slice (some p) i j) (.slice none k l) = some (.bool (false != neg)) := rfl
theorem vEq_ptr_n {q : Option Addr} {neg : Bool} : vEq .ptr neg (.pointer none) (.pointer q) = some (.bool (q.isNone != neg)) := rfl
theorem vEq_ptr_s {p : Addr} {neg : Bool} : vEq .ptr neg (.pointer (some p)) (.pointer none) = some (.bool (false != neg)) := rfl
theorem vEq_ifc_n {neg : Bool} : vEq .ifc neg .nilIface .nilIface = some (.bool (true != neg)) := rfl
theorem vEq_ifc_s {t : TypeId} {v : Value} {neg : Bool} : vEq .ifc neg (.iface t v) .nilIface = some (.bool (false != neg)) := rfl
theorem vEq_prim {x y neg : Bool} : vEq .prim neg (.bool x) (.bool y) = some (.bool ((x == y) != neg)) := rfl
theorem vNchk_p {p : Addr} : vNchk (.pointer (some p)) = some (.pointer (some p)) := rfl
theorem vConv_i {k j : IntKind} {n : Int} : vConv k (.int j n) = some (.int k (k.wrap n)) := rfl
theorem cbin_i {op : BinOp} {k : IntKind} {x y : Int} (h1 : op ≠ .shl) (h2 : op ≠ .shr) : cbin op (.int k x) (.int k y) = cint op k x y := by
  cases op <;> first | exact absurd rfl h1 | exact absurd rfl h2 | simp [cbin]
theorem cbin_add {k : IntKind} {x y : Int} : cbin .add (.int k x) (.int k y) = some (.int k (k.wrap (x + y))) := by simp [cbin, cint]
theorem cbin_sub {k : IntKind} {x y : Int} : cbin .sub (.int k x) (.int k y) = some (.int k (k.wrap (x - y))) := by simp [cbin, cint]
theorem cbin_mul {k : IntKind} {x y : Int} : cbin .mul (.int k x) (.int k y) = some (.int k (k.wrap (x * y))) := by simp [cbin, cint]
theorem cbin_quo {k : IntKind} {x y : Int} : cbin .quo (.int k x) (.int k y) = if y = 0 then none else some (.int k (k.wrap (x.tdiv y))) := by simp [cbin, cint]
theorem cbin_rem {k : IntKind} {x y : Int} : cbin .rem (.int k x) (.int k y) = if y = 0 then none else some (.int k (x.tmod y)) := by simp [cbin, cint]
theorem cbin_eql {k : IntKind} {x y : Int} : cbin .eql (.int k x) (.int k y) = some (.bool (decide (x = y))) := by simp [cbin, cint, BEq.beq]
theorem cbin_neq {k : IntKind} {x y : Int} : cbin .neq (.int k x) (.int k y) = some (.bool (!decide (x = y))) := by simp [cbin, cint, bne, BEq.beq]
theorem cbin_lss {k : IntKind} {x y : Int} : cbin .lss (.int k x) (.int k y) = some (.bool (decide (x < y))) := by simp [cbin, cint]
theorem cbin_leq {k : IntKind} {x y : Int} : cbin .leq (.int k x) (.int k y) = some (.bool (decide (x ≤ y))) := by simp [cbin, cint]
theorem cbin_gtr {k : IntKind} {x y : Int} : cbin .gtr (.int k x) (.int k y) = some (.bool (decide (x > y))) := by simp [cbin, cint]
theorem cbin_geq {k : IntKind} {x y : Int} : cbin .geq (.int k x) (.int k y) = some (.bool (decide (x ≥ y))) := by simp [cbin, cint]
theorem cun_not {b : Bool} : cun .not (.bool b) = some (.bool (!b)) := rfl
theorem evs_n : evs a [] = some [] := rfl
def consO (x : Option Value) (l : Option (List Value)) : Option (List Value) :=
  match x, l with
  | some v, some vs => some (v :: vs)
  | _, _ => none
theorem consO_s {v : Value} {vs : List Value} : consO (some v) (some vs) = some (v :: vs) := rfl
theorem evs_c {x : RX} {l : List RX} : evs a (x :: l) = consO (x.ev a) (evs a l) := by simp only [evs, consO]; cases x.ev a <;> cases evs a l <;> rfl
theorem evo_n : evo a none = some none := rfl
def someO (x : Option Value) : Option (Option Value) :=
  match x with
  | some v => some (some v)
  | none => none
theorem someO_s {v : Value} : someO (some v) = some (some v) := rfl
theorem evo_s {x : RX} : evo a (some x) = someO (x.ev a) := by simp only [evo, someO]; cases x.ev a <;> rfl
theorem rx_t {n : Nat} : (RX.t n).ev a = a.get n := rfl
theorem rx_c {v : Value} : (RX.c v).ev a = some v := rfl
theorem putd_s {d : Nat} {v : Value} : putd a (some d) v = a.set d v := rfl
theorem putd_n {v : Value} : putd a none v = a := rfl

/-! Operations with effects. -/
def X1 (f : Value → Option (RNext × CW)) (x : Option Value) : Option (RNext × CW) :=
  match x with
  | some v => f v
  | none => none
def X2 (f : Value → Value → Option (RNext × CW)) (x y : Option Value) : Option (RNext × CW) :=
  match x, y with
  | some u, some v => f u v
  | _, _ => none
theorem X1_s {f : Value → Option (RNext × CW)} {v : Value} : X1 f (some v) = f v := rfl
theorem X2_s {f : Value → Value → Option (RNext × CW)} {u v : Value} : X2 f (some u) (some v) = f u v := rfl
def valW (r : Option (Value × CW)) : Option (RNext × CW) :=
  match r with
  | some (v, W) => some (.value v, W)
  | none => none
def unitW (r : Option CW) : Option (RNext × CW) :=
  match r with
  | some W => some (.value undefV, W)
  | none => none
theorem valW_s {v : Value} {W : CW} : valW (some (v, W)) = some (.value v, W) := rfl
theorem unitW_s {W : CW} : unitW (some W) = some (.value undefV, W) := rfl
theorem xop_store {n : Nat} {p x : RX} : xop P a (.store n p x) W = X2 (fun p v => unitW (cstore n p v W)) (p.ev a) (x.ev a) := by
  simp only [xop, X2, unitW]; cases p.ev a <;> cases x.ev a <;> rfl
theorem xop_app {sz by_ : Nat} {s x : RX} : xop P a (.app sz by_ s x) W = X2 (fun s x => valW (capp sz by_ s x W)) (s.ev a) (x.ev a) := by
  simp only [xop, X2, valW]; cases s.ev a <;> cases x.ev a <;> rfl
theorem xop_cpy {sz : Nat} {s x : RX} : xop P a (.cpy sz s x) W = X2 (fun s x => valW (ccpy sz s x W)) (s.ev a) (x.ev a) := by
  simp only [xop, X2, valW]; cases s.ev a <;> cases x.ev a <;> rfl
def enterV (f : FuncId) (W : CW) (l : Option (List Value)) : Option (RNext × CW) :=
  match l with
  | some vs => some (.enter f vs, W)
  | none => none
theorem enterV_s {f : FuncId} {vs : List Value} : enterV f W (some vs) = some (.enter f vs, W) := rfl
theorem xop_callF {f : FuncId} {l : List RX} : xop P a (.callF f l) W = enterV f W (evs a l) := by
  simp only [xop, enterV]; cases evs a l <;> rfl

def putW (b o n : Nat) (W : CW) (l : Option (List Value)) : Option CW :=
  match l with
  | some cs => some (W.putR b cs o n)
  | none => none
def storeO (n b o : Nat) (xs : List Value) (W : CW) (ob : Option CObj) : Option CW :=
  match ob with
  | some (.row cs true) => if xs.length = n ∧ xs.all Can.one = true then putW b o n W (puts cs o xs) else none
  | _ => none
theorem cstore_p {n b o : Nat} {sp : Option Nat} {v : Value} : cstore n (.pointer (some ⟨b, o, sp⟩)) v W = storeO n b o (cells v) W (W.get b) := by
  simp only [cstore, storeO]
  cases hg : W.get b with
  | none => rfl
  | some ob =>
    cases ob with
    | row cs own =>
      cases own with
      | false => rfl
      | true =>
        simp only
        split
        · unfold putW; cases puts cs o (cells v) <;> rfl
        · rfl
    | map es => rfl
    | dead => rfl
theorem storeO_s {n b o : Nat} {xs cs : List Value} : storeO n b o xs W (some (.row cs true)) = if xs.length = n ∧ xs.all Can.one = true then putW b o n W (puts cs o xs) else none := rfl
theorem putW_s {b o n : Nat} {cs : List Value} : putW b o n W (some cs) = some (W.putR b cs o n) := rfl
theorem cells_agg {l : Array Value} : cells (.agg l) = l.toList := rfl
theorem cells_int {k : IntKind} {n : Int} : cells (.int k n) = [.int k n] := rfl
theorem cells_bool {b : Bool} : cells (.bool b) = [.bool b] := rfl
theorem cells_ptr {p : Option Addr} : cells (.pointer p) = [.pointer p] := rfl
theorem cells_slice {p : Option Addr} {n c : Nat} : cells (.slice p n c) = [.slice p n c] := rfl
theorem cells_map {p : Option Nat} : cells (.map p) = [.map p] := rfl
theorem cells_iface {t : TypeId} {v : Value} : cells (.iface t v) = [.iface t v] := rfl
theorem cells_nilIface : cells .nilIface = [.nilIface] := rfl
theorem cells_func {f : Fn} {x y : Array Value} : cells (.func f x y) = [.func f x y] := rfl
theorem cells_nilFunc : cells .nilFunc = [.nilFunc] := rfl
theorem one_int {k : IntKind} {n : Int} : Can.one (.int k n) = true := rfl
theorem one_bool {b : Bool} : Can.one (.bool b) = true := rfl
theorem one_ptr {p : Option Addr} : Can.one (.pointer p) = true := rfl
theorem one_slice {p : Option Addr} {n c : Nat} : Can.one (.slice p n c) = true := rfl
theorem one_map {p : Option Nat} : Can.one (.map p) = true := rfl
theorem one_iface {t : TypeId} {v : Value} : Can.one (.iface t v) = true := rfl
theorem one_nilIface : Can.one .nilIface = true := rfl
theorem one_func {f : Fn} {x y : Array Value} : Can.one (.func f x y) = true := rfl
theorem one_nilFunc : Can.one .nilFunc = true := rfl
theorem puts_z {cs xs : List Value} {o : Nat} (h : o + xs.length ≤ cs.length) : puts cs o xs = some (cs.take o ++ (xs ++ cs.drop (o + xs.length))) := by simp [puts, h]
theorem vIad_sl {sz b o n c : Nat} {sp : Option Nat} {k : IntKind} {i : Int} (h0 : 0 ≤ i) (h1 : i < n) : vIad none sz (.slice (some ⟨b, o, sp⟩) n c) (.int k i) = some (.pointer (some ⟨b, o + i.toNat * sz, none⟩)) := by
  simp [vIad, h0, h1, ptr]
theorem vIad_ar {n sz b o : Nat} {sp : Option Nat} {k : IntKind} {i : Int} (h0 : 0 ≤ i) (h1 : i < n) : vIad (some n) sz (.pointer (some ⟨b, o, sp⟩)) (.int k i) = some (.pointer (some ⟨b, o + i.toNat * sz, none⟩)) := by
  simp [vIad, h0, h1, ptr]

/-! Cells of a row that is written out. -/
def consP (c : Value) (l : Option (List Value)) : Option (List Value) :=
  match l with
  | some l => some (c :: l)
  | none => none
theorem consP_s {c : Value} {l : List Value} : consP c (some l) = some (c :: l) := rfl
theorem puts_c0 {c : Value} {cs xs : List Value} : puts (c :: cs) 0 xs = if xs.length ≤ (c :: cs).length then some (xs ++ (c :: cs).drop xs.length) else none := by
  simp [puts]
theorem puts_cs {c : Value} {cs xs : List Value} {o : Nat} : puts (c :: cs) (o + 1) xs = consP c (puts cs o xs) := by
  simp only [puts, List.length_cons]
  by_cases h : o + xs.length ≤ cs.length
  · rw [if_pos h, if_pos (by omega), show o + 1 + xs.length = o + xs.length + 1 by omega]; simp [consP]
  · rw [if_neg h, if_neg (by omega)]; rfl
theorem cut_c0 {c : Value} {cs : List Value} {n : Nat} : cut 0 n (c :: cs) = if n ≤ (c :: cs).length then some ((c :: cs).take n) else none := by
  simp only [cut, List.drop_zero]
  by_cases h : n ≤ (c :: cs).length
  · rw [if_pos h, if_pos (by rw [List.length_take]; omega)]
  · rw [if_neg h, if_neg (by rw [List.length_take]; omega)]
theorem cut_cs {c : Value} {cs : List Value} {o n : Nat} : cut (o + 1) n (c :: cs) = cut o n cs := by simp [cut]

/-- A store of one cell. -/
theorem cstore_one {b o : Nat} {sp : Option Nat} {v : Value} {cs : List Value} (h : W.get b = some (.row cs true)) (hc : cells v = [v]) (h1 : Can.one v = true) (ho : o < cs.length) : cstore 1 (.pointer (some ⟨b, o, sp⟩)) v W = some (W.putR b (cs.set o v) o 1) := by
  simp only [cstore, h, hc]
  simp [h1, puts_one v ho]

/-- A store of all of a block. -/
theorem cstore_all {b n : Nat} {sp : Option Nat} {l : Array Value} {cs : List Value} (h : W.get b = some (.row cs true)) (hl : l.size = n) (hn : cs.length = n) (h1 : l.toList.all Can.one = true) : cstore n (.pointer (some ⟨b, 0, sp⟩)) (.agg l) W = some (W.putR b l.toList 0 n) := by
  simp only [cstore, h]
  rw [if_pos ⟨by simp [cells, hl], h1⟩]
  show (match puts cs 0 l.toList with | some cs' => some (W.putR b cs' 0 n) | none => none) = _
  rw [puts_full (by simp [hl, hn])]
end

end Go.Can
