/-
  AccessTells: which of any accesses are a thread's, and at an address, and who wrote there: the law returns true for every input. Without conditions.
-/
import Derived.Test.YtcilkncmhmckmaaGreatSpec8
import Derived.Test.YtcilkncmhmckmaaGreatCanZK
import Derived.Test.YtcilkncmhmckmaaGreatShelfS
import Derived.Test.YtcilkncmhmckmaaGreatRows
import Derived.WalkKit
import Derived.ProofKit
import Derived.OpenShut
namespace Go.Proofs.YtcilkncmhmckmaaGreat.accessTells
open Go Go.Can Go.ChangeShapes Go.WideShapes Go.ChangeAt Go.RowKit
set_option linter.unusedVariables false

theorem own : ownKnob Tryz.prog.godebug = none := by kernel_rfl
theorem mixed : Tryz.prog.follows .mixedOrders = true := by kernel_rfl
theorem one_run : isTrueK (rcall PP noOrc 100000 F_one [] .empty) = true := by kernel_rfl
theorem sized : slicesSized Tryz.prog = true := by kernel_rfl
theorem laid : laidOutB Tryz.prog = true := by kernel_rfl
theorem rowed : mapsRowed Tryz.prog = true := by kernel_rfl
theorem sortR_some : (rfn PP F_sort).isSome = true := by kernel_rfl
theorem sort_ok : SortOk PP F_sort := ⟨fun p cap w => Tryz.slices_Sort_int_none p cap w, fun blk off cap zs w hH hb hz => Tryz.slices_Sort_int blk off cap zs w hH hb hz⟩

theorem matchK_acc {r : List Value} (h : MatchK [some .i64, some .i64, some .i64, some .i64, some .u64, some .u64] r) : ∃ a : Acc, r = a.enc := by
  obtain ⟨v1, r1, rfl, g1, h1⟩ := matchK_cons h
  obtain ⟨v2, r2, rfl, g2, h2⟩ := matchK_cons h1
  obtain ⟨v3, r3, rfl, g3, h3⟩ := matchK_cons h2
  obtain ⟨v4, r4, rfl, g4, h4⟩ := matchK_cons h3
  obtain ⟨v5, r5, rfl, g5, h5⟩ := matchK_cons h4
  obtain ⟨v6, r6, rfl, g6, h6⟩ := matchK_cons h5
  obtain rfl := matchK_nil h6
  obtain ⟨n1, rfl, _⟩ := okK_int g1
  obtain ⟨n2, rfl, _⟩ := okK_int g2
  obtain ⟨n3, rfl, _⟩ := okK_int g3
  obtain ⟨n4, rfl, _⟩ := okK_int g4
  obtain ⟨n5, rfl, _⟩ := okK_int g5
  obtain ⟨n6, rfl, _⟩ := okK_int g6
  exact ⟨⟨n1, n2, n3, n4, n5, n6⟩, rfl⟩

theorem rows_acc : ∀ {rows : List (List Value)}, (∀ r ∈ rows, MatchK [some .i64, some .i64, some .i64, some .i64, some .u64, some .u64] r) → ∃ l : List Acc, rows = l.map Acc.enc
  | [], _ => ⟨[], rfl⟩
  | r :: rows, h => by
    obtain ⟨a, ha⟩ := matchK_acc (h r (by simp))
    obtain ⟨l, hl⟩ := rows_acc (rows := rows) fun x hx => h x (by simp [hx])
    exact ⟨a :: l, by simp [ha, hl]⟩

set_option maxRecDepth 100000 in
theorem lifted (os : Os) (started : os.Started) (H : Type) (enc : TypeId × Value → H) :
    ReturnsInHanded {} Tryz.checked os 5 .any (Rows.accessTellsSpec.pre6 enc Tryz.prog Tryz.f5 Rows.accessTellsRow.domain false) (Rows.accessTellsSpec.post enc Tryz.prog Tryz.f5 false true false false) := by
  refine returnsInHanded_of_change (C := Tryz.checked) own started (by kernel_rfl) Tryz.func5
    (ChangeSpec.witness6 (enc := enc) (C := Tryz.checked) false ⟨#[], #[.slice none 0 0, .int .i64 0, .int .i64 0], []⟩ 8 (by kernel_rfl) (by kernel_rfl) (by kernel_rfl) (by kernel_rfl)) ?_
  intro W base args ds gs before hval0 hW hcnd _
  have hval : ∀ (j : Nat) t v, Tryz.f5.params[j]? = some t → args[j]? = some v → Value.okWide Tryz.prog W .any base t v := hval0
  have hW' := hW
  obtain ⟨p, q, hA0, hV, rfl, hfz, hnd⟩ := hW
  have hA : DataW.TrodAll enc Tryz.prog W 0 (fun _ => true) true Tryz.f5.params.toList args.toList ds p := hA0
  rw [Tryz.params5] at hA hval
  obtain ⟨v0, vs0, d0, ds0, p0, q0, hargs, rfl, rfl, h0, r0⟩ := trodAll_cons hA
  obtain ⟨v1, vs1, d1, ds1, p1, q1, rfl, rfl, rfl, h1, r1⟩ := trodAll_cons r0
  obtain ⟨v2, vs2, d2, ds2, p2, q2, rfl, rfl, rfl, h2, r2⟩ := trodAll_cons r1
  obtain ⟨rfl, rfl, rfl⟩ := trodAll_nil r2
  obtain rfl : args = #[v0, v1, v2] := by cases args; simp_all
  obtain ⟨a1, rfl, rfl, rfl, w1⟩ := open_int Tryz.underlying3 (hval 1 3 v1 rfl rfl) h1
  obtain ⟨a2, rfl, rfl, rfl, w2⟩ := open_int Tryz.underlying3 (hval 2 3 v2 rfl rfl) h2
  obtain ⟨s0, rows, c0, w0, k0, g0⟩ := arg_rows (d := 2) (ks := [some .i64, some .i64, some .i64, some .i64, some .u64, some .u64]) Tryz.underlying32 (by kernel_rfl) (by kernel_rfl) (by simp) (hval 0 32 v0 rfl rfl) h0
  obtain ⟨l, rfl⟩ := rows_acc w0
  have hc := law_calls mixed (orcOf_ok mixed (rcall_wp one_run) (s := some F_sort) (fun g hg => by cases hg; exact ⟨Option.isSome_iff_exists.1 sortR_some, sort_ok⟩)) (l := [s0]) (w := W) (args := #[v0, .int .i64 a1, .int .i64 a2]) (lawTells_spec (th := a1) (at_ := a2) (g0 [s0] 0 rfl).2)
    (fun s hs => by
      simp at hs
      exact k0 s hs.symm)
    (.cons (g0 [s0] 0 rfl).1 (.cons (.int _ _) (.cons (.int _ _) (.nil _))))
  exact law_post (kids_rows laid rowed) (slicesSized_of sized) (by rw [Tryz.params5]; intro t ht; simp at ht; rcases ht with rfl | rfl <;> (show _ < Tryz.prog.types.size; exact of_decide_eq_true (by kernel_rfl))) rfl hW' (tb := 4) (by kernel_rfl) Tryz.underlying4
    (fun ds hd => by
      match ds, hd with
      | [a, b, c], _ => rfl
      | [], h => simp [Tryz.params5] at h
      | [_], h => simp [Tryz.params5] at h
      | [_, _], h => simp [Tryz.params5] at h
      | _ :: _ :: _ :: _ :: _, h => simp [Tryz.params5] at h) hc

theorem over : Rows.accessTellsRow.holds Tryz.pinned (OpenSpec.ofChange Rows.accessTellsSpec) :=
  OpenClaim.holds_of_wide 5 Tryz.f5 rfl rfl rfl rfl rfl rfl rfl ⟨rfl, rfl, rfl, rfl, rfl⟩ rfl rfl rfl rfl rfl (by kernel_rfl) Tryz.func5 (by kernel_rfl)
    (of_decide_eq_true (by kernel_rfl)) (by unfold Func.isWrapper; first | (rw [if_pos (by decide +kernel)]; kernel_rfl) | (rw [if_neg (by decide +kernel)]; exact ⟨rfl, rfl⟩))
    (fun os started H enc _ => lifted os started H enc)

theorem proved : Rows.AccessTellsSaid := over
#print axioms proved
end Go.Proofs.YtcilkncmhmckmaaGreat.accessTells
