/-
  The short codes of functions of the given program, printed by a program of the prover's; each is what the optimiser makes of the translated code.
-/
import Derived.Test.YtcilkncmhmckmaaGreatCodesP
import Derived.Test.YtcilkncmhmckmaaGreatCanZP
namespace Go.Can
open Go
set_option linter.all false
set_option maxRecDepth 100000

abbrev F_stopped : FuncId := 6
def L_without : List (List Nat) := [[0, 1], [0, 1], [0, 1, 5], [0, 1, 5], [0, 1, 5], [0, 1, 5, 10], [0, 1, 5, 6, 10], [0, 1, 5, 6], [0, 1, 5, 6, 7], [1, 5, 6, 7, 11, 12, 13], [1, 5, 6, 7, 11, 12, 13], [1, 5, 6, 7, 11, 12, 13, 14], [1, 5, 6, 7, 11, 12, 13, 16], [1, 5, 6, 7, 9, 11, 12, 13, 16], [1, 5, 6, 7, 9, 11, 12, 13], [1, 5, 6, 7, 9, 11, 12, 13, 17], [1, 5, 6, 7, 9, 11, 12, 13, 17, 18], [1, 5, 6, 7, 9, 11, 12, 13, 19], [1, 5, 6, 7, 9, 11, 12, 13, 20, 21, 23], [1, 5, 6, 7, 9, 11, 12, 13], [1, 5, 6, 11, 12, 13, 24, 25], [1, 5, 6, 11, 12, 13, 24, 26], [1, 5, 6, 7, 11, 12, 13], [1, 5, 6, 7, 11, 12, 13], [4]]
def S_without : SCode := (.seq (.segs [.seg []
      [(0, (.t 0)), (1, (.t 1))]])
  (.seq (.segs [.seg []
      [(0, (.t 0)), (1, (.t 1))],
    .raw ⟨(some 5), none, 0, [], (.a (.new [.nilFunc]))⟩,
    .seg []
      [(0, (.t 0)), (1, (.t 1)), (5, (.t 5))],
    .raw ⟨none, none, 1, [5], (.x (.store 1 (.t 5) (.c (.func (.func 16) #[] #[]))))⟩,
    .seg []
      [(0, (.t 0)), (1, (.t 1)), (5, (.t 5))]])
  (.seq (.segs [.seg []
      [(0, (.t 0)), (1, (.t 1)), (5, (.t 5))],
    .raw ⟨(some 10), none, 0, [], (.a (.mkmap))⟩,
    .seg []
      [(0, (.t 0)), (1, (.t 1)), (5, (.t 5)), (10, (.t 10))],
    .raw ⟨(some 6), none, 0, [], (.a (.new [(.map none)]))⟩,
    .seg []
      [(0, (.t 0)), (1, (.t 1)), (5, (.t 5)), (6, (.t 6)), (10, (.t 10))],
    .raw ⟨none, none, 3, [6, 10], (.x (.store 1 (.t 6) (.t 10)))⟩,
    .seg []
      [(0, (.t 0)), (1, (.t 1)), (5, (.t 5)), (6, (.t 6))]])
  (.seq (.segs [.seg []
      [(0, (.t 0)), (1, (.t 1)), (5, (.t 5)), (6, (.t 6)), (7, (.c (.slice none 0 0)))]])
  (.seq (.seq (.segs [.seg [(.slen (.t 0))]
      [(1, (.t 1)), (5, (.t 5)), (6, (.t 6)), (7, (.t 7)), (11, (.t 0)), (12, (.slen (.t 0))), (13, (.c (.int .i64 0)))]])
  (.block 0
    (.loop [1, 5, 6, 7, 11, 12, 13]
      (.seq (.segs [.seg [(.bin .lss (.t 13) (.t 12))]
          [(1, (.t 1)), (5, (.t 5)), (6, (.t 6)), (7, (.t 7)), (11, (.t 11)), (12, (.t 12)), (13, (.t 13)), (14, (.bin .lss (.t 13) (.t 12)))]])
      (.seq (.cond (.t 14)
        .skip
        (.exit 0))
      (.seq (.block 1
        (.seq (.segs [.seg [(.load none (.iad none 1 (.t 11) (.t 13)))]
            [(1, (.t 1)), (5, (.t 5)), (6, (.t 6)), (7, (.t 7)), (11, (.t 11)), (12, (.t 12)), (13, (.t 13)), (16, (.load none (.iad none 1 (.t 11) (.t 13))))],
          .raw ⟨(some 9), none, 0, [], (.a (.new [(.int .i64 0)]))⟩,
          .seg []
            [(1, (.t 1)), (5, (.t 5)), (6, (.t 6)), (7, (.t 7)), (9, (.t 9)), (11, (.t 11)), (12, (.t 12)), (13, (.t 13)), (16, (.t 16))],
          .raw ⟨none, none, 7, [9, 16], (.x (.store 1 (.t 9) (.t 16)))⟩,
          .seg []
            [(1, (.t 1)), (5, (.t 5)), (6, (.t 6)), (7, (.t 7)), (9, (.t 9)), (11, (.t 11)), (12, (.t 12)), (13, (.t 13))]])
        (.seq (.seq (.segs [.seg [(.t 1)]
            [(1, (.t 1)), (5, (.t 5)), (6, (.t 6)), (7, (.t 7)), (9, (.t 9)), (11, (.t 11)), (12, (.t 12)), (13, (.t 13)), (17, (.t 1))],
          .raw ⟨(some 18), none, 0, [5, 9, 6], (.p (.func (.func 18) [] [(.t 5), (.t 9), (.t 6)]))⟩,
          .seg []
            [(1, (.t 1)), (5, (.t 5)), (6, (.t 6)), (7, (.t 7)), (9, (.t 9)), (11, (.t 11)), (12, (.t 12)), (13, (.t 13)), (17, (.t 17)), (18, (.t 18))],
          .raw ⟨(some 19), none, 3, [17, 18], (.x (.callF 17 [(.t 17), (.t 18)]))⟩,
          .seg []
            [(1, (.t 1)), (5, (.t 5)), (6, (.t 6)), (7, (.t 7)), (9, (.t 9)), (11, (.t 11)), (12, (.t 12)), (13, (.t 13)), (19, (.t 19))]])
        (.cond (.t 19)
          (.exit 1)
          .skip))
        (.seq (.segs [.seg [(.bin .add (.look (.int .i64 0) (.load none (.t 6)) (.load none (.t 9)) false) (.c (.int .i64 1)))]
            [(1, (.t 1)), (5, (.t 5)), (6, (.t 6)), (7, (.t 7)), (9, (.t 9)), (11, (.t 11)), (12, (.t 12)), (13, (.t 13)), (20, (.load none (.t 6))), (21, (.load none (.t 9))), (23, (.bin .add (.look (.int .i64 0) (.load none (.t 6)) (.load none (.t 9)) false) (.c (.int .i64 1))))],
          .raw ⟨none, none, 15, [20, 21, 23], (.x (.mput (.t 20) (.t 21) (.t 23)))⟩,
          .seg []
            [(1, (.t 1)), (5, (.t 5)), (6, (.t 6)), (7, (.t 7)), (9, (.t 9)), (11, (.t 11)), (12, (.t 12)), (13, (.t 13))]])
        (.segs [.seg [(.t 7), (.load none (.t 9))]
            [(1, (.t 1)), (5, (.t 5)), (6, (.t 6)), (11, (.t 11)), (12, (.t 12)), (13, (.t 13)), (24, (.t 7)), (25, (.load none (.t 9)))],
          .raw ⟨(some 26), none, 2, [25], (.a (.lit 1 [(.int .i64 0)] [(0, 1, (.t 25))]))⟩,
          .seg []
            [(1, (.t 1)), (5, (.t 5)), (6, (.t 6)), (11, (.t 11)), (12, (.t 12)), (13, (.t 13)), (24, (.t 24)), (26, (.t 26))],
          .raw ⟨(some 27), none, 7, [24, 26], (.x (.app 1 8 (.t 24) (.t 26)))⟩,
          .seg [(.t 27)]
            [(1, (.t 1)), (5, (.t 5)), (6, (.t 6)), (7, (.t 27)), (11, (.t 11)), (12, (.t 12)), (13, (.t 13))]])))))
      (.segs [.seg [(.bin .add (.t 13) (.c (.int .i64 1)))]
          [(1, (.t 1)), (5, (.t 5)), (6, (.t 6)), (7, (.t 7)), (11, (.t 11)), (12, (.t 12)), (13, (.bin .add (.t 13) (.c (.int .i64 1))))]])))))))
  (.seq (.segs [.seg [(.t 7)]
      [(4, (.t 7))]])
  .ret))))))
def R_without : List (Nat × Option (Option Nat)) := [(4, none)]
abbrev F_without : FuncId := 8
theorem short_without : shortP PP F_without L_without = some (S_without, R_without) := by kernel_rfl

def L_stops : List (List Nat) := [[0, 1, 2], [1, 2, 3], [6]]
def S_stops : SCode := (.seq (.segs [.seg []
      [(0, (.t 0)), (1, (.t 1)), (2, (.t 2))],
    .raw ⟨(some 3), none, 0, [0], (.a (.box (.t 0)))⟩,
    .seg []
      [(1, (.t 1)), (2, (.t 2)), (3, (.t 3))]])
  (.seq (.segs [.seg [(.pick (.bin .eql (.load none (.fad 0 (.t 3))) (.t 1)) (.bin .geq (.t 2) (.load none (.fad 1 (.t 3)))) (.c (.bool false)))]
      [(6, (.pick (.bin .eql (.load none (.fad 0 (.t 3))) (.t 1)) (.bin .geq (.t 2) (.load none (.fad 1 (.t 3)))) (.c (.bool false))))]])
  .ret))
def R_stops : List (Nat × Option (Option Nat)) := [(6, none)]
abbrev F_stops : FuncId := 16
theorem short_stops : shortP PP F_stops L_stops = some (S_stops, R_stops) := by kernel_rfl

def L_containsFunc : List (List Nat) := [[0, 1], [5, 6], [4]]
def S_containsFunc : SCode := (.seq (.segs [.seg []
      [(0, (.t 0)), (1, (.t 1))]])
  (.seq (.segs [.seg [(.t 0), (.t 1)]
      [(5, (.t 0)), (6, (.t 1))],
    .raw ⟨(some 7), none, 3, [5, 6], (.x (.callF 28 [(.t 5), (.t 6)]))⟩,
    .seg [(.bin .geq (.t 7) (.c (.int .i64 0)))]
      [(4, (.bin .geq (.t 7) (.c (.int .i64 0))))]])
  .ret))
def R_containsFunc : List (Nat × Option (Option Nat)) := [(4, none)]
abbrev F_containsFunc : FuncId := 17
theorem short_containsFunc : shortP PP F_containsFunc L_containsFunc = some (S_containsFunc, R_containsFunc) := by kernel_rfl

def L_indexFunc : List (List Nat) := [[0, 1], [0, 1, 7, 8], [0, 1, 7, 8], [0, 1, 7, 8, 9], [0, 1, 5, 7, 8], [0, 1, 5, 7, 8, 11, 15], [0, 1, 5, 7, 8, 16], [4], [0, 1, 7, 8], [4]]
def S_indexFunc : SCode := (.seq (.segs [.seg []
      [(0, (.t 0)), (1, (.t 1))]])
  (.seq (.seq (.segs [.seg [(.slen (.t 0))]
      [(0, (.t 0)), (1, (.t 1)), (7, (.slen (.t 0))), (8, (.c (.int .i64 0)))]])
  (.block 0
    (.loop [0, 1, 7, 8]
      (.seq (.segs [.seg [(.bin .lss (.t 8) (.t 7))]
          [(0, (.t 0)), (1, (.t 1)), (7, (.t 7)), (8, (.t 8)), (9, (.bin .lss (.t 8) (.t 7)))]])
      (.seq (.cond (.t 9)
        .skip
        (.exit 0))
      (.seq (.block 1
        (.seq (.segs [.seg [(.t 8)]
            [(0, (.t 0)), (1, (.t 1)), (5, (.t 8)), (7, (.t 7)), (8, (.t 8))]])
        (.seq (.segs [.seg [(.t 1), (.load (some 2) (.iad none 2 (.t 0) (.t 5)))]
            [(0, (.t 0)), (1, (.t 1)), (5, (.t 5)), (7, (.t 7)), (8, (.t 8)), (11, (.t 1)), (15, (.load (some 2) (.iad none 2 (.t 0) (.t 5))))],
          .raw ⟨(some 16), none, 31, [11, 15], (.x (.call (.t 11) [(.t 15)]))⟩,
          .seg []
            [(0, (.t 0)), (1, (.t 1)), (5, (.t 5)), (7, (.t 7)), (8, (.t 8)), (16, (.t 16))]])
        (.cond (.t 16)
          (.seq (.segs [.seg [(.t 5)]
              [(4, (.t 5))]])
          .ret)
          .skip))))
      (.segs [.seg [(.bin .add (.t 8) (.c (.int .i64 1)))]
          [(0, (.t 0)), (1, (.t 1)), (7, (.t 7)), (8, (.bin .add (.t 8) (.c (.int .i64 1))))]])))))))
  (.seq (.segs [.seg []
      [(4, (.c (.int .i64 (-1))))]])
  .ret)))
def R_indexFunc : List (Nat × Option (Option Nat)) := [(4, none)]
abbrev F_indexFunc : FuncId := 28
theorem short_indexFunc : shortP PP F_indexFunc L_indexFunc = some (S_indexFunc, R_indexFunc) := by kernel_rfl

def L_without1 : List (List Nat) := [[0, 1, 2, 3], [1, 2, 3, 4], [6, 7, 8, 11], [5]]
def S_without1 : SCode := (.seq (.segs [.seg []
      [(0, (.t 0)), (1, (.t 1)), (2, (.t 2)), (3, (.t 3))],
    .raw ⟨(some 4), none, 0, [0], (.a (.box (.t 0)))⟩,
    .seg []
      [(1, (.t 1)), (2, (.t 2)), (3, (.t 3)), (4, (.t 4))]])
  (.seq (.segs [.seg [(.load none (.t 1)), (.load (some 2) (.t 4)), (.look (.int .i64 0) (.load none (.t 3)) (.load none (.t 2)) false)]
      [(6, (.load none (.t 1))), (7, (.load (some 2) (.t 4))), (8, (.load none (.t 2))), (11, (.look (.int .i64 0) (.load none (.t 3)) (.load none (.t 2)) false))],
    .raw ⟨(some 12), none, 63, [6, 7, 8, 11], (.x (.call (.t 6) [(.t 7), (.t 8), (.t 11)]))⟩,
    .seg [(.t 12)]
      [(5, (.t 12))]])
  .ret))
def R_without1 : List (Nat × Option (Option Nat)) := [(5, none)]
abbrev F_without1 : FuncId := 18
theorem short_without1 : shortP PP F_without1 L_without1 = some (S_without1, R_without1) := by kernel_rfl

def L_rwithout : List (List Nat) := [[0, 1, 2], [0, 1, 2, 7], [0, 1, 2, 7, 13, 14], [0, 1, 2, 7, 13, 14], [0, 1, 2, 7, 13, 14, 15], [0, 1, 2, 7, 8, 13, 14], [0, 1, 2, 7, 8, 9, 13, 14], [0, 1, 2, 7, 8, 9, 13, 14, 17, 18], [0, 1, 2, 7, 8, 9, 13, 14, 17, 18], [0, 1, 2, 7, 8, 9, 13, 14, 17, 18, 19], [0, 1, 2, 7, 8, 9, 10, 13, 14, 17, 18], [0, 1, 2, 7, 8, 9, 13, 14, 17, 18, 29], [0, 1, 2, 7, 8, 9, 13, 14, 17, 18], [0, 1, 2, 7, 8, 9, 13, 14, 17, 18], [0, 1, 2, 7, 8, 9, 13, 14, 33, 34, 38], [0, 1, 2, 7, 8, 9, 11, 13, 14], [0, 1, 2, 7, 8, 13, 14, 46], [0, 1, 2, 13, 14, 47, 51], [0, 1, 2, 13, 14, 47, 52], [0, 1, 2, 7, 13, 14], [0, 1, 2, 7, 13, 14], [6]]
def S_rwithout : SCode := (.seq (.segs [.seg []
      [(0, (.t 0)), (1, (.t 1)), (2, (.t 2))]])
  (.seq (.segs [.seg []
      [(0, (.t 0)), (1, (.t 1)), (2, (.t 2)), (7, (.c (.slice none 0 0)))]])
  (.seq (.seq (.segs [.seg [(.slen (.t 0))]
      [(0, (.t 0)), (1, (.t 1)), (2, (.t 2)), (7, (.t 7)), (13, (.slen (.t 0))), (14, (.c (.int .i64 0)))]])
  (.block 0
    (.loop [0, 1, 2, 7, 13, 14]
      (.seq (.segs [.seg [(.bin .lss (.t 14) (.t 13))]
          [(0, (.t 0)), (1, (.t 1)), (2, (.t 2)), (7, (.t 7)), (13, (.t 13)), (14, (.t 14)), (15, (.bin .lss (.t 14) (.t 13)))]])
      (.seq (.cond (.t 15)
        .skip
        (.exit 0))
      (.seq (.block 1
        (.seq (.segs [.seg [(.t 14)]
            [(0, (.t 0)), (1, (.t 1)), (2, (.t 2)), (7, (.t 7)), (8, (.t 14)), (13, (.t 13)), (14, (.t 14))]])
        (.seq (.segs [.seg []
            [(0, (.t 0)), (1, (.t 1)), (2, (.t 2)), (7, (.t 7)), (8, (.t 8)), (9, (.c (.int .i64 0))), (13, (.t 13)), (14, (.t 14))]])
        (.seq (.seq (.segs [.seg [(.t 8)]
            [(0, (.t 0)), (1, (.t 1)), (2, (.t 2)), (7, (.t 7)), (8, (.t 8)), (9, (.t 9)), (13, (.t 13)), (14, (.t 14)), (17, (.t 8)), (18, (.c (.int .i64 0)))]])
        (.block 2
          (.loop [0, 1, 2, 7, 8, 9, 13, 14, 17, 18]
            (.seq (.segs [.seg [(.bin .lss (.t 18) (.t 17))]
                [(0, (.t 0)), (1, (.t 1)), (2, (.t 2)), (7, (.t 7)), (8, (.t 8)), (9, (.t 9)), (13, (.t 13)), (14, (.t 14)), (17, (.t 17)), (18, (.t 18)), (19, (.bin .lss (.t 18) (.t 17)))]])
            (.seq (.cond (.t 19)
              .skip
              (.exit 2))
            (.seq (.block 3
              (.seq (.segs [.seg [(.t 18)]
                  [(0, (.t 0)), (1, (.t 1)), (2, (.t 2)), (7, (.t 7)), (8, (.t 8)), (9, (.t 9)), (10, (.t 18)), (13, (.t 13)), (14, (.t 14)), (17, (.t 17)), (18, (.t 18))]])
              (.seq (.quiet 9 [(.bin .eql (.load none (.iad none 1 (.t 0) (.t 10))) (.load none (.iad none 1 (.t 0) (.t 8))))]
                  [(0, (.t 0)), (1, (.t 1)), (2, (.t 2)), (7, (.t 7)), (8, (.t 8)), (9, (.t 9)), (13, (.t 13)), (14, (.t 14)), (17, (.t 17)), (18, (.t 18)), (29, (.bin .eql (.load none (.iad none 1 (.t 0) (.t 10))) (.load none (.iad none 1 (.t 0) (.t 8)))))])
              (.cond (.t 29)
                (.segs [.seg [(.bin .add (.t 9) (.c (.int .i64 1)))]
                    [(0, (.t 0)), (1, (.t 1)), (2, (.t 2)), (7, (.t 7)), (8, (.t 8)), (9, (.bin .add (.t 9) (.c (.int .i64 1)))), (13, (.t 13)), (14, (.t 14)), (17, (.t 17)), (18, (.t 18))]])
                .skip))))
            (.segs [.seg [(.bin .add (.t 18) (.c (.int .i64 1)))]
                [(0, (.t 0)), (1, (.t 1)), (2, (.t 2)), (7, (.t 7)), (8, (.t 8)), (9, (.t 9)), (13, (.t 13)), (14, (.t 14)), (17, (.t 17)), (18, (.bin .add (.t 18) (.c (.int .i64 1))))]])))))))
        (.seq (.segs [.seg [(.t 1), (.t 2), (.load none (.iad none 1 (.t 0) (.t 8)))]
            [(0, (.t 0)), (1, (.t 1)), (2, (.t 2)), (7, (.t 7)), (8, (.t 8)), (9, (.t 9)), (13, (.t 13)), (14, (.t 14)), (33, (.t 1)), (34, (.t 2)), (38, (.load none (.iad none 1 (.t 0) (.t 8))))],
          .raw ⟨(some 39), none, 63, [33, 34, 38], (.x (.callF 19 [(.t 33), (.t 34), (.t 38)]))⟩,
          .seg [(.t 39)]
            [(0, (.t 0)), (1, (.t 1)), (2, (.t 2)), (7, (.t 7)), (8, (.t 8)), (9, (.t 9)), (11, (.t 39)), (13, (.t 13)), (14, (.t 14))]])
        (.seq (.segs [.seg [(.pick (.bin .lss (.t 11) (.c (.int .i64 0))) (.c (.bool true)) (.bin .lss (.t 9) (.t 11)))]
            [(0, (.t 0)), (1, (.t 1)), (2, (.t 2)), (7, (.t 7)), (8, (.t 8)), (13, (.t 13)), (14, (.t 14)), (46, (.pick (.bin .lss (.t 11) (.c (.int .i64 0))) (.c (.bool true)) (.bin .lss (.t 9) (.t 11))))]])
        (.cond (.t 46)
          (.segs [.seg [(.t 7), (.load none (.iad none 1 (.t 0) (.t 8)))]
              [(0, (.t 0)), (1, (.t 1)), (2, (.t 2)), (13, (.t 13)), (14, (.t 14)), (47, (.t 7)), (51, (.load none (.iad none 1 (.t 0) (.t 8))))],
            .raw ⟨(some 52), none, 30, [51], (.a (.lit 1 [(.int .i64 0)] [(0, 1, (.t 51))]))⟩,
            .seg []
              [(0, (.t 0)), (1, (.t 1)), (2, (.t 2)), (13, (.t 13)), (14, (.t 14)), (47, (.t 47)), (52, (.t 52))],
            .raw ⟨(some 53), none, 63, [47, 52], (.x (.app 1 8 (.t 47) (.t 52)))⟩,
            .seg [(.t 53)]
              [(0, (.t 0)), (1, (.t 1)), (2, (.t 2)), (7, (.t 53)), (13, (.t 13)), (14, (.t 14))]])
          .skip)))))))
      (.segs [.seg [(.bin .add (.t 14) (.c (.int .i64 1)))]
          [(0, (.t 0)), (1, (.t 1)), (2, (.t 2)), (7, (.t 7)), (13, (.t 13)), (14, (.bin .add (.t 14) (.c (.int .i64 1))))]])))))))
  (.seq (.segs [.seg [(.t 7)]
      [(6, (.t 7))]])
  .ret))))
def R_rwithout : List (Nat × Option (Option Nat)) := [(6, none)]
abbrev F_rwithout : FuncId := 9
theorem short_rwithout : shortP PP F_rwithout L_rwithout = some (S_rwithout, R_rwithout) := by kernel_rfl

def L_most : List (List Nat) := [[0, 1, 2], [0, 1, 2, 7], [0, 1, 2, 7, 10, 11], [0, 1, 2, 7, 10, 11], [0, 1, 2, 7, 10, 11, 12], [0, 1, 2, 7, 8, 10, 11], [0, 1, 2, 7, 8, 10, 11, 32], [0, 1, 2, 7, 10, 11], [0, 1, 2, 7, 10, 11], [6]]
def S_most : SCode := (.seq (.segs [.seg []
      [(0, (.t 0)), (1, (.t 1)), (2, (.t 2))]])
  (.seq (.segs [.seg []
      [(0, (.t 0)), (1, (.t 1)), (2, (.t 2)), (7, (.c (.int .i64 (-1))))]])
  (.seq (.seq (.segs [.seg [(.slen (.t 0))]
      [(0, (.t 0)), (1, (.t 1)), (2, (.t 2)), (7, (.t 7)), (10, (.slen (.t 0))), (11, (.c (.int .i64 0)))]])
  (.block 0
    (.loop [0, 1, 2, 7, 10, 11]
      (.seq (.segs [.seg [(.bin .lss (.t 11) (.t 10))]
          [(0, (.t 0)), (1, (.t 1)), (2, (.t 2)), (7, (.t 7)), (10, (.t 10)), (11, (.t 11)), (12, (.bin .lss (.t 11) (.t 10)))]])
      (.seq (.cond (.t 12)
        .skip
        (.exit 0))
      (.seq (.block 1
        (.seq (.segs [.seg [(.t 11)]
            [(0, (.t 0)), (1, (.t 1)), (2, (.t 2)), (7, (.t 7)), (8, (.t 11)), (10, (.t 10)), (11, (.t 11))]])
        (.seq (.segs [.seg [(.pick (.bin .eql (.load none (.iad none 1 (.t 0) (.t 8))) (.t 2)) (.pick (.bin .lss (.t 7) (.c (.int .i64 0))) (.c (.bool true)) (.bin .lss (.max2 (.load none (.iad none 1 (.t 1) (.t 8))) (.c (.int .i64 0))) (.t 7))) (.c (.bool false)))]
            [(0, (.t 0)), (1, (.t 1)), (2, (.t 2)), (7, (.t 7)), (8, (.t 8)), (10, (.t 10)), (11, (.t 11)), (32, (.pick (.bin .eql (.load none (.iad none 1 (.t 0) (.t 8))) (.t 2)) (.pick (.bin .lss (.t 7) (.c (.int .i64 0))) (.c (.bool true)) (.bin .lss (.max2 (.load none (.iad none 1 (.t 1) (.t 8))) (.c (.int .i64 0))) (.t 7))) (.c (.bool false))))]])
        (.cond (.t 32)
          (.segs [.seg [(.max2 (.load none (.iad none 1 (.t 1) (.t 8))) (.c (.int .i64 0)))]
              [(0, (.t 0)), (1, (.t 1)), (2, (.t 2)), (7, (.max2 (.load none (.iad none 1 (.t 1) (.t 8))) (.c (.int .i64 0)))), (10, (.t 10)), (11, (.t 11))]])
          .skip))))
      (.segs [.seg [(.bin .add (.t 11) (.c (.int .i64 1)))]
          [(0, (.t 0)), (1, (.t 1)), (2, (.t 2)), (7, (.t 7)), (10, (.t 10)), (11, (.bin .add (.t 11) (.c (.int .i64 1))))]])))))))
  (.seq (.segs [.seg [(.t 7)]
      [(6, (.t 7))]])
  .ret))))
def R_most : List (Nat × Option (Option Nat)) := [(6, none)]
abbrev F_most : FuncId := 19
theorem short_most : shortP PP F_most L_most = some (S_most, R_most) := by kernel_rfl

def L_ints : List (List Nat) := [[0, 1], [0, 1, 10], [4], [0, 1, 12, 13], [0, 1, 12, 13], [0, 1, 12, 13, 14], [0, 1, 5, 12, 13], [0, 1, 12, 13, 24], [4], [0, 1, 12, 13], [4]]
def S_ints : SCode := (.seq (.segs [.seg []
      [(0, (.t 0)), (1, (.t 1))]])
  (.seq (.seq (.segs [.seg [(.bin .neq (.slen (.t 0)) (.slen (.t 1)))]
      [(0, (.t 0)), (1, (.t 1)), (10, (.bin .neq (.slen (.t 0)) (.slen (.t 1))))]])
  (.cond (.t 10)
    (.seq (.segs [.seg []
        [(4, (.c (.bool false)))]])
    .ret)
    .skip))
  (.seq (.seq (.segs [.seg [(.slen (.t 0))]
      [(0, (.t 0)), (1, (.t 1)), (12, (.slen (.t 0))), (13, (.c (.int .i64 0)))]])
  (.block 0
    (.loop [0, 1, 12, 13]
      (.seq (.segs [.seg [(.bin .lss (.t 13) (.t 12))]
          [(0, (.t 0)), (1, (.t 1)), (12, (.t 12)), (13, (.t 13)), (14, (.bin .lss (.t 13) (.t 12)))]])
      (.seq (.cond (.t 14)
        .skip
        (.exit 0))
      (.seq (.block 1
        (.seq (.segs [.seg [(.t 13)]
            [(0, (.t 0)), (1, (.t 1)), (5, (.t 13)), (12, (.t 12)), (13, (.t 13))]])
        (.seq (.quiet 9 [(.bin .neq (.load none (.iad none 1 (.t 0) (.t 5))) (.load none (.iad none 1 (.t 1) (.t 5))))]
            [(0, (.t 0)), (1, (.t 1)), (12, (.t 12)), (13, (.t 13)), (24, (.bin .neq (.load none (.iad none 1 (.t 0) (.t 5))) (.load none (.iad none 1 (.t 1) (.t 5)))))])
        (.cond (.t 24)
          (.seq (.segs [.seg []
              [(4, (.c (.bool false)))]])
          .ret)
          .skip))))
      (.segs [.seg [(.bin .add (.t 13) (.c (.int .i64 1)))]
          [(0, (.t 0)), (1, (.t 1)), (12, (.t 12)), (13, (.bin .add (.t 13) (.c (.int .i64 1))))]])))))))
  (.seq (.segs [.seg []
      [(4, (.c (.bool true)))]])
  .ret))))
def R_ints : List (Nat × Option (Option Nat)) := [(4, none)]
abbrev F_ints : FuncId := 7
theorem short_ints : shortP PP F_ints L_ints = some (S_ints, R_ints) := by kernel_rfl

def L_lawWithout : List (List Nat) := [[0, 1], [0, 1, 15], [], [4], [0, 1, 5, 6], [0, 1, 5, 6, 18, 19], [0, 1, 5, 6, 18, 19], [0, 1, 5, 6, 18, 19, 20], [0, 1, 5, 6, 7, 18, 19], [0, 1, 6, 7, 18, 19, 22, 27], [0, 1, 6, 7, 18, 19, 22, 28], [0, 1, 5, 6, 7, 18, 19], [0, 1, 5, 18, 19, 30, 35], [0, 1, 5, 18, 19, 30, 36], [0, 1, 5, 6, 18, 19], [0, 1, 5, 6, 18, 19], [0, 5, 6, 39, 40], [41, 42, 43, 44], [41, 45], [47], [4]]
def S_lawWithout : SCode := (.seq (.segs [.seg []
      [(0, (.t 0)), (1, (.t 1))]])
  (.seq (.seq (.segs [.seg [(.pick (.bin .gtr (.slen (.t 0)) (.c (.int .i64 500))) (.c (.bool true)) (.bin .gtr (.slen (.t 1)) (.c (.int .i64 50))))]
      [(0, (.t 0)), (1, (.t 1)), (15, (.pick (.bin .gtr (.slen (.t 0)) (.c (.int .i64 500))) (.c (.bool true)) (.bin .gtr (.slen (.t 1)) (.c (.int .i64 50)))))]])
  (.cond (.t 15)
    (.seq (.segs [.seg []
        [],
      .raw ⟨(some 16), none, 0, [], (.x (.callF 6 []))⟩,
      .seg [(.t 16)]
        [(4, (.t 16))]])
    .ret)
    .skip))
  (.seq (.segs [.seg []
      [(0, (.t 0)), (1, (.t 1)), (5, (.c (.slice none 0 0))), (6, (.c (.slice none 0 0)))]])
  (.seq (.seq (.segs [.seg [(.slen (.t 1))]
      [(0, (.t 0)), (1, (.t 1)), (5, (.t 5)), (6, (.t 6)), (18, (.slen (.t 1))), (19, (.c (.int .i64 0)))]])
  (.block 0
    (.loop [0, 1, 5, 6, 18, 19]
      (.seq (.segs [.seg [(.bin .lss (.t 19) (.t 18))]
          [(0, (.t 0)), (1, (.t 1)), (5, (.t 5)), (6, (.t 6)), (18, (.t 18)), (19, (.t 19)), (20, (.bin .lss (.t 19) (.t 18)))]])
      (.seq (.cond (.t 20)
        .skip
        (.exit 0))
      (.seq (.block 1
        (.seq (.segs [.seg [(.t 19)]
            [(0, (.t 0)), (1, (.t 1)), (5, (.t 5)), (6, (.t 6)), (7, (.t 19)), (18, (.t 18)), (19, (.t 19))]])
        (.seq (.segs [.seg [(.t 5), (.load none (.fad 0 (.iad none 2 (.t 1) (.t 7))))]
            [(0, (.t 0)), (1, (.t 1)), (6, (.t 6)), (7, (.t 7)), (18, (.t 18)), (19, (.t 19)), (22, (.t 5)), (27, (.load none (.fad 0 (.iad none 2 (.t 1) (.t 7)))))],
          .raw ⟨(some 28), none, 62, [27], (.a (.lit 1 [(.int .i64 0)] [(0, 1, (.t 27))]))⟩,
          .seg []
            [(0, (.t 0)), (1, (.t 1)), (6, (.t 6)), (7, (.t 7)), (18, (.t 18)), (19, (.t 19)), (22, (.t 22)), (28, (.t 28))],
          .raw ⟨(some 29), none, 127, [22, 28], (.x (.app 1 8 (.t 22) (.t 28)))⟩,
          .seg [(.t 29)]
            [(0, (.t 0)), (1, (.t 1)), (5, (.t 29)), (6, (.t 6)), (7, (.t 7)), (18, (.t 18)), (19, (.t 19))]])
        (.segs [.seg [(.t 6), (.load none (.fad 1 (.iad none 2 (.t 1) (.t 7))))]
            [(0, (.t 0)), (1, (.t 1)), (5, (.t 5)), (18, (.t 18)), (19, (.t 19)), (30, (.t 6)), (35, (.load none (.fad 1 (.iad none 2 (.t 1) (.t 7)))))],
          .raw ⟨(some 36), none, 62, [35], (.a (.lit 1 [(.int .i64 0)] [(0, 1, (.t 35))]))⟩,
          .seg []
            [(0, (.t 0)), (1, (.t 1)), (5, (.t 5)), (18, (.t 18)), (19, (.t 19)), (30, (.t 30)), (36, (.t 36))],
          .raw ⟨(some 37), none, 127, [30, 36], (.x (.app 1 8 (.t 30) (.t 36)))⟩,
          .seg [(.t 37)]
            [(0, (.t 0)), (1, (.t 1)), (5, (.t 5)), (6, (.t 37)), (18, (.t 18)), (19, (.t 19))]]))))
      (.segs [.seg [(.bin .add (.t 19) (.c (.int .i64 1)))]
          [(0, (.t 0)), (1, (.t 1)), (5, (.t 5)), (6, (.t 6)), (18, (.t 18)), (19, (.bin .add (.t 19) (.c (.int .i64 1))))]])))))))
  (.seq (.segs [.seg [(.t 0), (.t 1)]
      [(0, (.t 0)), (5, (.t 5)), (6, (.t 6)), (39, (.t 0)), (40, (.t 1))],
    .raw ⟨(some 41), none, 3, [39, 40], (.x (.callF 8 [(.t 39), (.t 40)]))⟩,
    .seg [(.t 0), (.t 5), (.t 6)]
      [(41, (.t 41)), (42, (.t 0)), (43, (.t 5)), (44, (.t 6))],
    .raw ⟨(some 45), none, 63, [42, 43, 44], (.x (.callF 9 [(.t 42), (.t 43), (.t 44)]))⟩,
    .seg []
      [(41, (.t 41)), (45, (.t 45))],
    .raw ⟨(some 46), none, 127, [41, 45], (.x (.callF 7 [(.t 41), (.t 45)]))⟩,
    .seg [(.t 46)]
      [(47, (.t 46))],
    .raw ⟨(some 48), (some (47, true)), 511, [47], (.x (.callF 6 []))⟩,
    .seg [(.pick (.t 47) (.t 48) (.c (.bool false)))]
      [(4, (.pick (.t 47) (.t 48) (.c (.bool false))))]])
  .ret)))))
def R_lawWithout : List (Nat × Option (Option Nat)) := [(4, none)]
abbrev F_lawWithout : FuncId := 3
theorem short_lawWithout : shortP PP F_lawWithout L_lawWithout = some (S_lawWithout, R_lawWithout) := by kernel_rfl

end Go.Can
