/-
  CrashWithout: which picks are left, of any picks, by any stops: the law returns true for every input. Without conditions.
-/
import Derived.Test.YtcilkncmhmckmaaGreatSpecZ
import Derived.Test.YtcilkncmhmckmaaGreatCanZC
import Derived.Test.YtcilkncmhmckmaaGreatWitS
import Derived.Test.YtcilkncmhmckmaaGreatRows
import Derived.WalkKit
import Derived.ProofKit
import Derived.OpenShut
namespace Go.Proofs.YtcilkncmhmckmaaGreat.crashWithout
open Go Go.Can Go.ChangeShapes Go.WideShapes Go.ChangeAt Go.RowKit
set_option linter.unusedVariables false

theorem own : ownKnob Tryz.prog.godebug = none := by kernel_rfl
theorem mixed : Tryz.prog.follows .mixedOrders = true := by kernel_rfl
theorem sized : slicesSized Tryz.prog = true := by kernel_rfl
theorem laid : laidOutB Tryz.prog = true := by kernel_rfl
theorem rowed : mapsRowed Tryz.prog = true := by kernel_rfl

theorem matchK_stp {r : List Value} (h : MatchK [some .i64, some .i64] r) : ∃ a : Stp, r = encS a := by
  obtain ⟨v1, r1, rfl, g1, h1⟩ := matchK_cons h
  obtain ⟨v2, r2, rfl, g2, h2⟩ := matchK_cons h1
  obtain rfl := matchK_nil h2
  obtain ⟨n1, rfl, _⟩ := okK_int g1
  obtain ⟨n2, rfl, _⟩ := okK_int g2
  exact ⟨(n1, n2), rfl⟩

theorem rows_stp : ∀ {rows : List (List Value)}, (∀ r ∈ rows, MatchK [some .i64, some .i64] r) → ∃ l : List Stp, rows = l.map encS
  | [], _ => ⟨[], rfl⟩
  | r :: rows, h => by
    obtain ⟨a, ha⟩ := matchK_stp (h r (by simp))
    obtain ⟨l, hl⟩ := rows_stp (rows := rows) fun x hx => h x (by simp [hx])
    exact ⟨a :: l, by simp [ha, hl]⟩

set_option maxRecDepth 100000 in
theorem lifted (os : Os) (started : os.Started) (H : Type) (enc : TypeId × Value → H) :
    ReturnsInHanded {} Tryz.checked os 3 .any (Rows.crashWithoutSpec.pre6 enc Tryz.prog Tryz.f3 Rows.crashWithoutRow.domain false) (Rows.crashWithoutSpec.post enc Tryz.prog Tryz.f3 false true false false) := by
  refine returnsInHanded_of_change (C := Tryz.checked) own started (by kernel_rfl) Tryz.func3
    (ChangeSpec.witness6 (enc := enc) (C := Tryz.checked) false ⟨#[], #[.slice none 0 0, .slice none 0 0], []⟩ 8 (by kernel_rfl) (by kernel_rfl) (by kernel_rfl) (by kernel_rfl)) ?_
  intro W base args ds gs before hval0 hW hcnd _
  have hval : ∀ (j : Nat) t v, Tryz.f3.params[j]? = some t → args[j]? = some v → Value.okWide Tryz.prog W .any base t v := hval0
  have hW' := hW
  obtain ⟨p, q, hA0, hV, rfl, hfz, hnd⟩ := hW
  have hA : DataW.TrodAll enc Tryz.prog W 0 (fun _ => true) true Tryz.f3.params.toList args.toList ds p := hA0
  rw [Tryz.params3] at hA hval
  obtain ⟨v0, vs0, d0, ds0, p0, q0, hargs, rfl, rfl, h0, r0⟩ := trodAll_cons hA
  obtain ⟨v1, vs1, d1, ds1, p1, q1, rfl, rfl, rfl, h1, r1⟩ := trodAll_cons r0
  obtain ⟨rfl, rfl, rfl⟩ := trodAll_nil r1
  obtain rfl : args = #[v0, v1] := by cases args; simp_all
  obtain ⟨s0, ws, c0, w0, k0, g0⟩ := arg_ints (k := .i64) Tryz.underlying22 (by kernel_rfl) (by kernel_rfl) (hval 0 22 v0 rfl rfl) h0
  obtain ⟨s1, rows, c1, w1, k1, g1⟩ := arg_rows (d := 2) (ks := [some .i64, some .i64]) Tryz.underlying23 (by kernel_rfl) (by kernel_rfl) (by simp) (hval 1 23 v1 rfl rfl) h1
  obtain ⟨l, rfl⟩ := rows_stp w1
  have hc := law_calls mixed (orc1_wp mixed stopped_wp) (l := [s0, s1]) (w := W) (args := #[v0, v1]) (lawWithout_spec (orc := orc1 F_stopped) (by simp [orc1]) (g0 [s0, s1] 0 rfl).2 (g1 [s0, s1] 1 rfl).2)
    (fun s hs => by
      simp at hs
      rcases hs with h | h
      · exact k0 s h.symm
      · exact k1 s h.symm)
    (.cons (g0 [s0, s1] 0 rfl).1 (.cons (g1 [s0, s1] 1 rfl).1 (.nil _)))
  exact law_post (kids_rows laid rowed) (slicesSized_of sized) (by rw [Tryz.params3]; intro t ht; simp at ht; rcases ht with rfl | rfl <;> (show _ < Tryz.prog.types.size; exact of_decide_eq_true (by kernel_rfl))) rfl hW' (tb := 4) (by kernel_rfl) Tryz.underlying4
    (fun ds hd => by
      match ds, hd with
      | [a, b], _ => rfl
      | [], h => simp [Tryz.params3] at h
      | [_], h => simp [Tryz.params3] at h
      | _ :: _ :: _ :: _, h => simp [Tryz.params3] at h) hc

theorem over : Rows.crashWithoutRow.holds Tryz.pinned (OpenSpec.ofChange Rows.crashWithoutSpec) :=
  OpenClaim.holds_of_wide 3 Tryz.f3 rfl rfl rfl rfl rfl rfl rfl ⟨rfl, rfl, rfl, rfl, rfl⟩ rfl rfl rfl rfl rfl (by kernel_rfl) Tryz.func3 (by kernel_rfl)
    (of_decide_eq_true (by kernel_rfl)) (by unfold Func.isWrapper; first | (rw [if_pos (by decide +kernel)]; kernel_rfl) | (rw [if_neg (by decide +kernel)]; exact ⟨rfl, rfl⟩))
    (fun os started H enc _ => lifted os started H enc)

theorem proved : Rows.CrashWithoutSaid := over
#print axioms proved
end Go.Proofs.YtcilkncmhmckmaaGreat.crashWithout
