/-
  The short codes of functions of the given program, printed by a program of the prover's; each is what the optimiser makes of the translated code.
-/
import Derived.Test.YtcilkncmhmckmaaGreatProg
import Derived.KernelRfl
import Derived.Test.YtcilkncmhmckmaaGreatCanZP
namespace Go.Can
open Go
noncomputable abbrev PP : Program := Go.Proofs.Tryz.prog
set_option linter.all false
set_option maxRecDepth 100000

abbrev F_one : FuncId := 10
abbrev F_stopped : FuncId := 6
def L_apply : List (List Nat) := [[0, 1], [1, 9], [1, 6], [6, 11, 12, 13], [6, 11, 12, 13], [6, 11, 12, 13, 14], [6, 11, 12, 13, 15, 17], [6, 7, 8, 11, 12, 13, 17], [6, 7, 8, 11, 12, 13], [6, 7, 8, 11, 12, 13, 49], [4, 5], [6, 11, 12, 13, 56, 57], [6, 11, 12, 13], [6, 11, 12, 13], [4, 5]]
def S_apply : SCode := (.seq (.segs [.seg []
      [(0, (.t 0)), (1, (.t 1))]])
  (.seq (.segs [.seg [(.t 0)]
      [(1, (.t 1)), (9, (.t 0))],
    .raw ⟨(some 10), none, 1, [9], (.x (.callF 21 [(.t 9)]))⟩,
    .seg [(.t 10)]
      [(1, (.t 1)), (6, (.t 10))]])
  (.seq (.seq (.segs [.seg [(.slen (.t 1))]
      [(6, (.t 6)), (11, (.t 1)), (12, (.slen (.t 1))), (13, (.c (.int .i64 0)))]])
  (.block 0
    (.loop [6, 11, 12, 13]
      (.seq (.segs [.seg [(.bin .lss (.t 13) (.t 12))]
          [(6, (.t 6)), (11, (.t 11)), (12, (.t 12)), (13, (.t 13)), (14, (.bin .lss (.t 13) (.t 12)))]])
      (.seq (.cond (.t 14)
        .skip
        (.exit 0))
      (.seq (.block 1
        (.seq (.segs [.seg [(.load (some 6) (.iad none 6 (.t 11) (.t 13)))]
            [(6, (.t 6)), (11, (.t 11)), (12, (.t 12)), (13, (.t 13)), (15, (.t 13)), (17, (.load (some 6) (.iad none 6 (.t 11) (.t 13))))],
          .raw ⟨(some 8), none, 0, [], (.a (.new [(.int .i64 0), (.int .i64 0), (.int .i64 0), (.int .i64 0), (.int .u64 0), (.int .u64 0)]))⟩,
          .seg [(.t 15)]
            [(6, (.t 6)), (7, (.t 15)), (8, (.t 8)), (11, (.t 11)), (12, (.t 12)), (13, (.t 13)), (17, (.t 17))],
          .raw ⟨none, none, 31, [8, 17], (.x (.store 6 (.t 8) (.t 17)))⟩,
          .seg []
            [(6, (.t 6)), (7, (.t 7)), (8, (.t 8)), (11, (.t 11)), (12, (.t 12)), (13, (.t 13))]])
        (.seq (.seq (.quiet 32 [(.pick (.pick (.pick (.bin .lss (.load none (.fad 3 (.t 8))) (.c (.int .i64 0))) (.c (.bool true)) (.bin .geq (.load none (.fad 3 (.t 8))) (.slen (.t 6)))) (.c (.bool true)) (.bin .neq (.load none (.iad none 1 (.t 6) (.load none (.fad 3 (.t 8))))) (.load none (.fad 4 (.t 8))))) (.c (.bool true)) (.pick (.bin .eql (.load none (.fad 2 (.t 8))) (.c (.int .i64 0))) (.bin .neq (.load none (.fad 5 (.t 8))) (.load none (.fad 4 (.t 8)))) (.c (.bool false))))]
            [(6, (.t 6)), (7, (.t 7)), (8, (.t 8)), (11, (.t 11)), (12, (.t 12)), (13, (.t 13)), (49, (.pick (.pick (.pick (.bin .lss (.load none (.fad 3 (.t 8))) (.c (.int .i64 0))) (.c (.bool true)) (.bin .geq (.load none (.fad 3 (.t 8))) (.slen (.t 6)))) (.c (.bool true)) (.bin .neq (.load none (.iad none 1 (.t 6) (.load none (.fad 3 (.t 8))))) (.load none (.fad 4 (.t 8))))) (.c (.bool true)) (.pick (.bin .eql (.load none (.fad 2 (.t 8))) (.c (.int .i64 0))) (.bin .neq (.load none (.fad 5 (.t 8))) (.load none (.fad 4 (.t 8)))) (.c (.bool false)))))])
        (.cond (.t 49)
          (.seq (.segs [.seg [(.t 6), (.t 7)]
              [(4, (.t 6)), (5, (.t 7))]])
          .ret)
          .skip))
        (.segs [.seg [(.load none (.fad 5 (.t 8))), (.iad none 1 (.t 6) (.load none (.fad 3 (.t 8))))]
            [(6, (.t 6)), (11, (.t 11)), (12, (.t 12)), (13, (.t 13)), (56, (.load none (.fad 5 (.t 8)))), (57, (.iad none 1 (.t 6) (.load none (.fad 3 (.t 8)))))],
          .raw ⟨none, none, 63, [57, 56], (.x (.store 1 (.t 57) (.t 56)))⟩,
          .seg []
            [(6, (.t 6)), (11, (.t 11)), (12, (.t 12)), (13, (.t 13))]]))))
      (.segs [.seg [(.bin .add (.t 13) (.c (.int .i64 1)))]
          [(6, (.t 6)), (11, (.t 11)), (12, (.t 12)), (13, (.bin .add (.t 13) (.c (.int .i64 1))))]])))))))
  (.seq (.segs [.seg [(.t 6)]
      [(4, (.t 6)), (5, (.c (.int .i64 (-1))))]])
  .ret))))
def R_apply : List (Nat × Option (Option Nat)) := [(4, none), (5, none)]
abbrev F_apply : FuncId := 11
theorem short_apply : shortP PP F_apply L_apply = some (S_apply, R_apply) := by kernel_rfl

def L_clone64 : List (List Nat) := [[0], [0, 4], [2], [0], [5, 6], [2]]
def S_clone64 : SCode := (.seq (.segs [.seg []
      [(0, (.t 0))]])
  (.seq (.seq (.segs [.seg [(.eq .slc false (.t 0) (.c (.slice none 0 0)))]
      [(0, (.t 0)), (4, (.eq .slc false (.t 0) (.c (.slice none 0 0))))]])
  (.cond (.t 4)
    (.seq (.segs [.seg []
        [(2, (.c (.slice none 0 0)))]])
    .ret)
    .skip))
  (.seq (.segs [.seg []
      [(0, (.t 0))],
    .raw ⟨(some 5), none, 0, [], (.a (.lit 0 [] []))⟩,
    .seg [(.t 0)]
      [(5, (.t 5)), (6, (.t 0))],
    .raw ⟨(some 7), none, 3, [5, 6], (.x (.app 1 8 (.t 5) (.t 6)))⟩,
    .seg [(.t 7)]
      [(2, (.t 7))]])
  .ret)))
def R_clone64 : List (Nat × Option (Option Nat)) := [(2, none)]
abbrev F_clone64 : FuncId := 21
theorem short_clone64 : shortP PP F_clone64 L_clone64 = some (S_clone64, R_clone64) := by kernel_rfl

def L_same64 : List (List Nat) := [[0, 1], [0, 1, 10], [4], [0, 1, 12, 13], [0, 1, 12, 13], [0, 1, 12, 13, 14], [0, 1, 5, 12, 13], [0, 1, 12, 13, 24], [4], [0, 1, 12, 13], [4]]
def S_same64 : SCode := (.seq (.segs [.seg []
      [(0, (.t 0)), (1, (.t 1))]])
  (.seq (.seq (.segs [.seg [(.bin .neq (.slen (.t 0)) (.slen (.t 1)))]
      [(0, (.t 0)), (1, (.t 1)), (10, (.bin .neq (.slen (.t 0)) (.slen (.t 1))))]])
  (.cond (.t 10)
    (.seq (.segs [.seg []
        [(4, (.c (.bool false)))]])
    .ret)
    .skip))
  (.seq (.seq (.segs [.seg [(.slen (.t 0))]
      [(0, (.t 0)), (1, (.t 1)), (12, (.slen (.t 0))), (13, (.c (.int .i64 0)))]])
  (.block 0
    (.loop [0, 1, 12, 13]
      (.seq (.segs [.seg [(.bin .lss (.t 13) (.t 12))]
          [(0, (.t 0)), (1, (.t 1)), (12, (.t 12)), (13, (.t 13)), (14, (.bin .lss (.t 13) (.t 12)))]])
      (.seq (.cond (.t 14)
        .skip
        (.exit 0))
      (.seq (.block 1
        (.seq (.segs [.seg [(.t 13)]
            [(0, (.t 0)), (1, (.t 1)), (5, (.t 13)), (12, (.t 12)), (13, (.t 13))]])
        (.seq (.quiet 9 [(.bin .neq (.load none (.iad none 1 (.t 0) (.t 5))) (.load none (.iad none 1 (.t 1) (.t 5))))]
            [(0, (.t 0)), (1, (.t 1)), (12, (.t 12)), (13, (.t 13)), (24, (.bin .neq (.load none (.iad none 1 (.t 0) (.t 5))) (.load none (.iad none 1 (.t 1) (.t 5)))))])
        (.cond (.t 24)
          (.seq (.segs [.seg []
              [(4, (.c (.bool false)))]])
          .ret)
          .skip))))
      (.segs [.seg [(.bin .add (.t 13) (.c (.int .i64 1)))]
          [(0, (.t 0)), (1, (.t 1)), (12, (.t 12)), (13, (.bin .add (.t 13) (.c (.int .i64 1))))]])))))))
  (.seq (.segs [.seg []
      [(4, (.c (.bool true)))]])
  .ret))))
def R_same64 : List (Nat × Option (Option Nat)) := [(4, none)]
abbrev F_same64 : FuncId := 12
theorem short_same64 : shortP PP F_same64 L_same64 = some (S_same64, R_same64) := by kernel_rfl

def L_lawApplies : List (List Nat) := [[0, 1], [0, 1, 18], [], [4], [0, 1, 21, 22], [0, 1, 5, 6], [0, 1, 5, 6], [1, 5, 6, 26, 27], [1, 5, 6, 7], [1, 5, 6, 7, 8], [1, 5, 6, 7, 8, 30, 31], [1, 5, 6, 7, 8, 30, 31], [1, 5, 6, 7, 8, 30, 31, 32], [1, 5, 6, 7, 8, 9, 30, 31], [1, 5, 6, 7, 8, 9, 30, 31, 37], [1, 5, 6, 7, 8, 9, 10, 30, 31, 37], [1, 5, 6, 7, 8, 9, 10, 30, 31], [1, 5, 6, 7, 8, 9, 10, 30, 31, 69], [5, 6, 7, 8], [1, 5, 6, 7, 8, 30, 31, 75, 76], [1, 5, 6, 7, 8, 30, 31], [1, 5, 6, 7, 8, 30, 31], [6, 8, 78, 79], [86], [4]]
def S_lawApplies : SCode := (.seq (.segs [.seg []
      [(0, (.t 0)), (1, (.t 1))]])
  (.seq (.seq (.segs [.seg [(.pick (.bin .gtr (.slen (.t 0)) (.c (.int .i64 1000))) (.c (.bool true)) (.bin .gtr (.slen (.t 1)) (.c (.int .i64 1000))))]
      [(0, (.t 0)), (1, (.t 1)), (18, (.pick (.bin .gtr (.slen (.t 0)) (.c (.int .i64 1000))) (.c (.bool true)) (.bin .gtr (.slen (.t 1)) (.c (.int .i64 1000)))))]])
  (.cond (.t 18)
    (.seq (.segs [.seg []
        [],
      .raw ⟨(some 19), none, 0, [], (.x (.callF 10 []))⟩,
      .seg [(.t 19)]
        [(4, (.t 19))]])
    .ret)
    .skip))
  (.seq (.segs [.seg [(.t 0), (.t 1)]
      [(0, (.t 0)), (1, (.t 1)), (21, (.t 0)), (22, (.t 1))],
    .raw ⟨(some 23), none, 3, [21, 22], (.x (.callF 11 [(.t 21), (.t 22)]))⟩,
    .seg [(.ext (.t 23) 0), (.ext (.t 23) 1)]
      [(0, (.t 0)), (1, (.t 1)), (5, (.ext (.t 23) 0)), (6, (.ext (.t 23) 1))]])
  (.seq (.segs [.seg []
      [(0, (.t 0)), (1, (.t 1)), (5, (.t 5)), (6, (.t 6))],
    .raw ⟨(some 26), none, 0, [], (.a (.lit 0 [] []))⟩,
    .seg [(.t 0)]
      [(1, (.t 1)), (5, (.t 5)), (6, (.t 6)), (26, (.t 26)), (27, (.t 0))],
    .raw ⟨(some 28), none, 3, [26, 27], (.x (.app 1 8 (.t 26) (.t 27)))⟩,
    .seg [(.t 28)]
      [(1, (.t 1)), (5, (.t 5)), (6, (.t 6)), (7, (.t 28))]])
  (.seq (.segs [.seg []
      [(1, (.t 1)), (5, (.t 5)), (6, (.t 6)), (7, (.t 7)), (8, (.c (.int .i64 (-1))))]])
  (.seq (.seq (.segs [.seg [(.slen (.t 1))]
      [(1, (.t 1)), (5, (.t 5)), (6, (.t 6)), (7, (.t 7)), (8, (.t 8)), (30, (.slen (.t 1))), (31, (.c (.int .i64 0)))]])
  (.block 0
    (.loop [1, 5, 6, 7, 8, 30, 31]
      (.seq (.segs [.seg [(.bin .lss (.t 31) (.t 30))]
          [(1, (.t 1)), (5, (.t 5)), (6, (.t 6)), (7, (.t 7)), (8, (.t 8)), (30, (.t 30)), (31, (.t 31)), (32, (.bin .lss (.t 31) (.t 30)))]])
      (.seq (.cond (.t 32)
        .skip
        (.exit 0))
      (.seq (.block 1
        (.seq (.segs [.seg [(.t 31)]
            [(1, (.t 1)), (5, (.t 5)), (6, (.t 6)), (7, (.t 7)), (8, (.t 8)), (9, (.t 31)), (30, (.t 30)), (31, (.t 31))]])
        (.seq (.segs [.seg [(.load (some 6) (.iad none 6 (.t 1) (.t 9)))]
            [(1, (.t 1)), (5, (.t 5)), (6, (.t 6)), (7, (.t 7)), (8, (.t 8)), (9, (.t 9)), (30, (.t 30)), (31, (.t 31)), (37, (.load (some 6) (.iad none 6 (.t 1) (.t 9))))],
          .raw ⟨(some 10), none, 0, [], (.a (.new [(.int .i64 0), (.int .i64 0), (.int .i64 0), (.int .i64 0), (.int .u64 0), (.int .u64 0)]))⟩,
          .seg []
            [(1, (.t 1)), (5, (.t 5)), (6, (.t 6)), (7, (.t 7)), (8, (.t 8)), (9, (.t 9)), (10, (.t 10)), (30, (.t 30)), (31, (.t 31)), (37, (.t 37))],
          .raw ⟨none, none, 31, [10, 37], (.x (.store 6 (.t 10) (.t 37)))⟩,
          .seg []
            [(1, (.t 1)), (5, (.t 5)), (6, (.t 6)), (7, (.t 7)), (8, (.t 8)), (9, (.t 9)), (10, (.t 10)), (30, (.t 30)), (31, (.t 31))]])
        (.seq (.seq (.quiet 32 [(.pick (.pick (.pick (.bin .lss (.load none (.fad 3 (.t 10))) (.c (.int .i64 0))) (.c (.bool true)) (.bin .geq (.load none (.fad 3 (.t 10))) (.slen (.t 7)))) (.c (.bool true)) (.bin .neq (.load none (.iad none 1 (.t 7) (.load none (.fad 3 (.t 10))))) (.load none (.fad 4 (.t 10))))) (.c (.bool true)) (.pick (.bin .eql (.load none (.fad 2 (.t 10))) (.c (.int .i64 0))) (.bin .neq (.load none (.fad 5 (.t 10))) (.load none (.fad 4 (.t 10)))) (.c (.bool false))))]
            [(1, (.t 1)), (5, (.t 5)), (6, (.t 6)), (7, (.t 7)), (8, (.t 8)), (9, (.t 9)), (10, (.t 10)), (30, (.t 30)), (31, (.t 31)), (69, (.pick (.pick (.pick (.bin .lss (.load none (.fad 3 (.t 10))) (.c (.int .i64 0))) (.c (.bool true)) (.bin .geq (.load none (.fad 3 (.t 10))) (.slen (.t 7)))) (.c (.bool true)) (.bin .neq (.load none (.iad none 1 (.t 7) (.load none (.fad 3 (.t 10))))) (.load none (.fad 4 (.t 10))))) (.c (.bool true)) (.pick (.bin .eql (.load none (.fad 2 (.t 10))) (.c (.int .i64 0))) (.bin .neq (.load none (.fad 5 (.t 10))) (.load none (.fad 4 (.t 10)))) (.c (.bool false)))))])
        (.cond (.t 69)
          (.seq (.segs [.seg [(.t 9)]
              [(5, (.t 5)), (6, (.t 6)), (7, (.t 7)), (8, (.t 9))]])
          (.exit 0))
          .skip))
        (.segs [.seg [(.load none (.fad 5 (.t 10))), (.iad none 1 (.t 7) (.load none (.fad 3 (.t 10))))]
            [(1, (.t 1)), (5, (.t 5)), (6, (.t 6)), (7, (.t 7)), (8, (.t 8)), (30, (.t 30)), (31, (.t 31)), (75, (.load none (.fad 5 (.t 10)))), (76, (.iad none 1 (.t 7) (.load none (.fad 3 (.t 10)))))],
          .raw ⟨none, none, 63, [76, 75], (.x (.store 1 (.t 76) (.t 75)))⟩,
          .seg []
            [(1, (.t 1)), (5, (.t 5)), (6, (.t 6)), (7, (.t 7)), (8, (.t 8)), (30, (.t 30)), (31, (.t 31))]])))))
      (.segs [.seg [(.bin .add (.t 31) (.c (.int .i64 1)))]
          [(1, (.t 1)), (5, (.t 5)), (6, (.t 6)), (7, (.t 7)), (8, (.t 8)), (30, (.t 30)), (31, (.bin .add (.t 31) (.c (.int .i64 1))))]])))))))
  (.seq (.segs [.seg [(.t 5), (.t 7)]
      [(6, (.t 6)), (8, (.t 8)), (78, (.t 5)), (79, (.t 7))],
    .raw ⟨(some 80), none, 3, [78, 79], (.x (.callF 12 [(.t 78), (.t 79)]))⟩,
    .seg [(.pick (.t 80) (.bin .eql (.t 6) (.t 8)) (.c (.bool false)))]
      [(86, (.pick (.t 80) (.bin .eql (.t 6) (.t 8)) (.c (.bool false))))],
    .raw ⟨(some 87), (some (86, true)), 511, [86], (.x (.callF 10 []))⟩,
    .seg [(.pick (.t 86) (.t 87) (.c (.bool false)))]
      [(4, (.pick (.t 86) (.t 87) (.c (.bool false))))]])
  .ret)))))))
def R_lawApplies : List (Nat × Option (Option Nat)) := [(4, none)]
abbrev F_lawApplies : FuncId := 4
theorem short_lawApplies : shortP PP F_lawApplies L_lawApplies = some (S_lawApplies, R_lawApplies) := by kernel_rfl

end Go.Can
