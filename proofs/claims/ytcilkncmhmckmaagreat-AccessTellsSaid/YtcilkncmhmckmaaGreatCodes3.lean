/-
  The short codes of functions of the given program, printed by a program of the prover's; each is what the optimiser makes of the translated code.
-/
import Derived.Test.YtcilkncmhmckmaaGreatCodesP
import Derived.Test.YtcilkncmhmckmaaGreatCanZP
namespace Go.Can
open Go
set_option linter.all false
set_option maxRecDepth 100000

abbrev F_one : FuncId := 10
abbrev F_sort : FuncId := 22
def L_of : List (List Nat) := [[0, 1, 2], [0, 1, 2, 7], [1, 2, 7, 10, 11, 12], [1, 2, 7, 10, 11, 12], [1, 2, 7, 10, 11, 12, 13], [1, 2, 7, 10, 11, 12, 14, 16], [1, 2, 7, 8, 9, 10, 11, 12, 16], [1, 2, 7, 8, 9, 10, 11, 12], [1, 2, 7, 8, 10, 11, 12, 34], [1, 2, 10, 11, 12, 35, 36], [1, 2, 10, 11, 12, 35, 37], [1, 2, 7, 10, 11, 12], [1, 2, 7, 10, 11, 12], [6]]
def S_of : SCode := (.seq (.segs [.seg []
      [(0, (.t 0)), (1, (.t 1)), (2, (.t 2))]])
  (.seq (.segs [.seg []
      [(0, (.t 0)), (1, (.t 1)), (2, (.t 2)), (7, (.c (.slice none 0 0)))]])
  (.seq (.seq (.segs [.seg [(.slen (.t 0))]
      [(1, (.t 1)), (2, (.t 2)), (7, (.t 7)), (10, (.t 0)), (11, (.slen (.t 0))), (12, (.c (.int .i64 0)))]])
  (.block 0
    (.loop [1, 2, 7, 10, 11, 12]
      (.seq (.segs [.seg [(.bin .lss (.t 12) (.t 11))]
          [(1, (.t 1)), (2, (.t 2)), (7, (.t 7)), (10, (.t 10)), (11, (.t 11)), (12, (.t 12)), (13, (.bin .lss (.t 12) (.t 11)))]])
      (.seq (.cond (.t 13)
        .skip
        (.exit 0))
      (.seq (.block 1
        (.seq (.segs [.seg [(.load (some 6) (.iad none 6 (.t 10) (.t 12)))]
            [(1, (.t 1)), (2, (.t 2)), (7, (.t 7)), (10, (.t 10)), (11, (.t 11)), (12, (.t 12)), (14, (.t 12)), (16, (.load (some 6) (.iad none 6 (.t 10) (.t 12))))],
          .raw ⟨(some 9), none, 0, [], (.a (.new [(.int .i64 0), (.int .i64 0), (.int .i64 0), (.int .i64 0), (.int .u64 0), (.int .u64 0)]))⟩,
          .seg [(.t 14)]
            [(1, (.t 1)), (2, (.t 2)), (7, (.t 7)), (8, (.t 14)), (9, (.t 9)), (10, (.t 10)), (11, (.t 11)), (12, (.t 12)), (16, (.t 16))],
          .raw ⟨none, none, 31, [9, 16], (.x (.store 6 (.t 9) (.t 16)))⟩,
          .seg []
            [(1, (.t 1)), (2, (.t 2)), (7, (.t 7)), (8, (.t 8)), (9, (.t 9)), (10, (.t 10)), (11, (.t 11)), (12, (.t 12))]])
        (.seq (.segs [.seg [(.pick (.pick (.bin .lss (.t 1) (.c (.int .i64 0))) (.c (.bool true)) (.bin .eql (.load none (.fad 1 (.t 9))) (.t 1))) (.pick (.bin .lss (.t 2) (.c (.int .i64 0))) (.c (.bool true)) (.bin .eql (.load none (.fad 3 (.t 9))) (.t 2))) (.c (.bool false)))]
            [(1, (.t 1)), (2, (.t 2)), (7, (.t 7)), (8, (.t 8)), (10, (.t 10)), (11, (.t 11)), (12, (.t 12)), (34, (.pick (.pick (.bin .lss (.t 1) (.c (.int .i64 0))) (.c (.bool true)) (.bin .eql (.load none (.fad 1 (.t 9))) (.t 1))) (.pick (.bin .lss (.t 2) (.c (.int .i64 0))) (.c (.bool true)) (.bin .eql (.load none (.fad 3 (.t 9))) (.t 2))) (.c (.bool false))))]])
        (.cond (.t 34)
          (.segs [.seg [(.t 7), (.t 8)]
              [(1, (.t 1)), (2, (.t 2)), (10, (.t 10)), (11, (.t 11)), (12, (.t 12)), (35, (.t 7)), (36, (.t 8))],
            .raw ⟨(some 37), none, 2, [36], (.a (.lit 1 [(.int .i64 0)] [(0, 1, (.t 36))]))⟩,
            .seg []
              [(1, (.t 1)), (2, (.t 2)), (10, (.t 10)), (11, (.t 11)), (12, (.t 12)), (35, (.t 35)), (37, (.t 37))],
            .raw ⟨(some 38), none, 7, [35, 37], (.x (.app 1 8 (.t 35) (.t 37)))⟩,
            .seg [(.t 38)]
              [(1, (.t 1)), (2, (.t 2)), (7, (.t 38)), (10, (.t 10)), (11, (.t 11)), (12, (.t 12))]])
          .skip))))
      (.segs [.seg [(.bin .add (.t 12) (.c (.int .i64 1)))]
          [(1, (.t 1)), (2, (.t 2)), (7, (.t 7)), (10, (.t 10)), (11, (.t 11)), (12, (.bin .add (.t 12) (.c (.int .i64 1))))]])))))))
  (.seq (.segs [.seg [(.t 7)]
      [(6, (.t 7))]])
  .ret))))
def R_of : List (Nat × Option (Option Nat)) := [(6, none)]
abbrev F_of : FuncId := 14
theorem short_of : shortP PP F_of L_of = some (S_of, R_of) := by kernel_rfl

def L_writers : List (List Nat) := [[0, 1], [0, 1, 5], [1, 5, 8, 9, 10], [1, 5, 8, 9, 10], [1, 5, 8, 9, 10, 11], [1, 5, 8, 9, 10, 13], [1, 5, 7, 8, 9, 10, 13], [1, 5, 7, 8, 9, 10], [1, 5, 7, 8, 9, 10, 29], [1, 8, 9, 10, 30, 32], [1, 8, 9, 10, 30, 33], [1, 5, 8, 9, 10], [1, 5, 8, 9, 10], [5, 36], [5], [38], [4]]
def S_writers : SCode := (.seq (.segs [.seg []
      [(0, (.t 0)), (1, (.t 1))]])
  (.seq (.segs [.seg []
      [(0, (.t 0)), (1, (.t 1)), (5, (.c (.slice none 0 0)))]])
  (.seq (.seq (.segs [.seg [(.slen (.t 0))]
      [(1, (.t 1)), (5, (.t 5)), (8, (.t 0)), (9, (.slen (.t 0))), (10, (.c (.int .i64 0)))]])
  (.block 0
    (.loop [1, 5, 8, 9, 10]
      (.seq (.segs [.seg [(.bin .lss (.t 10) (.t 9))]
          [(1, (.t 1)), (5, (.t 5)), (8, (.t 8)), (9, (.t 9)), (10, (.t 10)), (11, (.bin .lss (.t 10) (.t 9)))]])
      (.seq (.cond (.t 11)
        .skip
        (.exit 0))
      (.seq (.block 1
        (.seq (.segs [.seg [(.load (some 6) (.iad none 6 (.t 8) (.t 10)))]
            [(1, (.t 1)), (5, (.t 5)), (8, (.t 8)), (9, (.t 9)), (10, (.t 10)), (13, (.load (some 6) (.iad none 6 (.t 8) (.t 10))))],
          .raw ⟨(some 7), none, 0, [], (.a (.new [(.int .i64 0), (.int .i64 0), (.int .i64 0), (.int .i64 0), (.int .u64 0), (.int .u64 0)]))⟩,
          .seg []
            [(1, (.t 1)), (5, (.t 5)), (7, (.t 7)), (8, (.t 8)), (9, (.t 9)), (10, (.t 10)), (13, (.t 13))],
          .raw ⟨none, none, 7, [7, 13], (.x (.store 6 (.t 7) (.t 13)))⟩,
          .seg []
            [(1, (.t 1)), (5, (.t 5)), (7, (.t 7)), (8, (.t 8)), (9, (.t 9)), (10, (.t 10))]])
        (.seq (.segs [.seg [(.pick (.bin .eql (.load none (.fad 3 (.t 7))) (.t 1)) (.pick (.bin .eql (.load none (.fad 2 (.t 7))) (.c (.int .i64 1))) (.c (.bool true)) (.bin .neq (.load none (.fad 5 (.t 7))) (.load none (.fad 4 (.t 7))))) (.c (.bool false)))]
            [(1, (.t 1)), (5, (.t 5)), (7, (.t 7)), (8, (.t 8)), (9, (.t 9)), (10, (.t 10)), (29, (.pick (.bin .eql (.load none (.fad 3 (.t 7))) (.t 1)) (.pick (.bin .eql (.load none (.fad 2 (.t 7))) (.c (.int .i64 1))) (.c (.bool true)) (.bin .neq (.load none (.fad 5 (.t 7))) (.load none (.fad 4 (.t 7))))) (.c (.bool false))))]])
        (.cond (.t 29)
          (.segs [.seg [(.t 5), (.load none (.fad 1 (.t 7)))]
              [(1, (.t 1)), (8, (.t 8)), (9, (.t 9)), (10, (.t 10)), (30, (.t 5)), (32, (.load none (.fad 1 (.t 7))))],
            .raw ⟨(some 33), none, 6, [32], (.a (.lit 1 [(.int .i64 0)] [(0, 1, (.t 32))]))⟩,
            .seg []
              [(1, (.t 1)), (8, (.t 8)), (9, (.t 9)), (10, (.t 10)), (30, (.t 30)), (33, (.t 33))],
            .raw ⟨(some 34), none, 15, [30, 33], (.x (.app 1 8 (.t 30) (.t 33)))⟩,
            .seg [(.t 34)]
              [(1, (.t 1)), (5, (.t 34)), (8, (.t 8)), (9, (.t 9)), (10, (.t 10))]])
          .skip))))
      (.segs [.seg [(.bin .add (.t 10) (.c (.int .i64 1)))]
          [(1, (.t 1)), (5, (.t 5)), (8, (.t 8)), (9, (.t 9)), (10, (.bin .add (.t 10) (.c (.int .i64 1))))]])))))))
  (.seq (.segs [.seg [(.t 5)]
      [(5, (.t 5)), (36, (.t 5))],
    .raw ⟨(some 37), none, 1, [36], (.x (.callF 22 [(.t 36)]))⟩,
    .seg []
      [(5, (.t 5))]])
  (.seq (.segs [.seg [(.t 5)]
      [(38, (.t 5))],
    .raw ⟨(some 39), none, 1, [38], (.x (.callF 23 [(.t 38)]))⟩,
    .seg [(.t 39)]
      [(4, (.t 39))]])
  .ret)))))
def R_writers : List (Nat × Option (Option Nat)) := [(4, none)]
abbrev F_writers : FuncId := 13
theorem short_writers : shortP PP F_writers L_writers = some (S_writers, R_writers) := by kernel_rfl

def L_compact : List (List Nat) := [[0], [0, 8], [2], [0, 3], [0, 3], [0, 3, 13], [0, 3, 25], [0, 3, 4], [0, 3, 4, 5], [0, 3, 4, 5], [0, 3, 4, 5, 32], [0, 3, 4, 5, 44], [0, 3, 4, 5, 50, 51], [0, 3, 4, 5], [0, 3, 4, 5], [0, 3, 4, 5], [0, 3, 56], [0, 3], [2], [0, 3], [2]]
def S_compact : SCode := (.seq (.segs [.seg []
      [(0, (.t 0))]])
  (.seq (.seq (.segs [.seg [(.bin .lss (.slen (.t 0)) (.c (.int .i64 2)))]
      [(0, (.t 0)), (8, (.bin .lss (.slen (.t 0)) (.c (.int .i64 2))))]])
  (.cond (.t 8)
    (.seq (.segs [.seg [(.t 0)]
        [(2, (.t 0))]])
    .ret)
    .skip))
  (.seq (.seq (.segs [.seg []
      [(0, (.t 0)), (3, (.c (.int .i64 1)))]])
  (.block 0
    (.loop [0, 3]
      (.seq (.seq (.segs [.seg [(.bin .lss (.t 3) (.slen (.t 0)))]
          [(0, (.t 0)), (3, (.t 3)), (13, (.bin .lss (.t 3) (.slen (.t 0))))]])
      (.cond (.t 13)
        .skip
        (.exit 0)))
      (.seq (.block 1
        (.seq (.quiet 10 [(.bin .eql (.load none (.iad none 1 (.t 0) (.t 3))) (.load none (.iad none 1 (.t 0) (.bin .sub (.t 3) (.c (.int .i64 1))))))]
            [(0, (.t 0)), (3, (.t 3)), (25, (.bin .eql (.load none (.iad none 1 (.t 0) (.t 3))) (.load none (.iad none 1 (.t 0) (.bin .sub (.t 3) (.c (.int .i64 1)))))))])
        (.cond (.t 25)
          (.seq (.segs [.seg [(.slc none 1 true false false (.t 0) (.t 3) (.c (.tuple #[])) (.c (.tuple #[]))), (.slc none 1 true false false (.t 0) (.t 3) (.c (.tuple #[])) (.c (.tuple #[])))]
              [(0, (.t 0)), (3, (.t 3)), (4, (.slc none 1 true false false (.t 0) (.t 3) (.c (.tuple #[])) (.c (.tuple #[]))))]])
          (.seq (.seq (.segs [.seg []
              [(0, (.t 0)), (3, (.t 3)), (4, (.t 4)), (5, (.c (.int .i64 1)))]])
          (.block 2
            (.loop [0, 3, 4, 5]
              (.seq (.seq (.segs [.seg [(.bin .lss (.t 5) (.slen (.t 4)))]
                  [(0, (.t 0)), (3, (.t 3)), (4, (.t 4)), (5, (.t 5)), (32, (.bin .lss (.t 5) (.slen (.t 4))))]])
              (.cond (.t 32)
                .skip
                (.exit 2)))
              (.seq (.block 3
                (.seq (.quiet 10 [(.bin .neq (.load none (.iad none 1 (.t 4) (.t 5))) (.load none (.iad none 1 (.t 4) (.bin .sub (.t 5) (.c (.int .i64 1))))))]
                    [(0, (.t 0)), (3, (.t 3)), (4, (.t 4)), (5, (.t 5)), (44, (.bin .neq (.load none (.iad none 1 (.t 4) (.t 5))) (.load none (.iad none 1 (.t 4) (.bin .sub (.t 5) (.c (.int .i64 1)))))))])
                (.cond (.t 44)
                  (.seq (.segs [.seg [(.load none (.iad none 1 (.t 4) (.t 5))), (.iad none 1 (.t 0) (.t 3))]
                      [(0, (.t 0)), (3, (.t 3)), (4, (.t 4)), (5, (.t 5)), (50, (.load none (.iad none 1 (.t 4) (.t 5)))), (51, (.iad none 1 (.t 0) (.t 3)))],
                    .raw ⟨none, none, 127, [51, 50], (.x (.store 1 (.t 51) (.t 50)))⟩,
                    .seg []
                      [(0, (.t 0)), (3, (.t 3)), (4, (.t 4)), (5, (.t 5))]])
                  (.segs [.seg [(.bin .add (.t 3) (.c (.int .i64 1)))]
                      [(0, (.t 0)), (3, (.bin .add (.t 3) (.c (.int .i64 1)))), (4, (.t 4)), (5, (.t 5))]]))
                  .skip)))
              (.segs [.seg [(.bin .add (.t 5) (.c (.int .i64 1)))]
                  [(0, (.t 0)), (3, (.t 3)), (4, (.t 4)), (5, (.bin .add (.t 5) (.c (.int .i64 1))))]]))))))
          (.seq (.segs [.seg [(.slc none 1 true false false (.t 0) (.t 3) (.c (.tuple #[])) (.c (.tuple #[])))]
              [(0, (.t 0)), (3, (.t 3)), (56, (.slc none 1 true false false (.t 0) (.t 3) (.c (.tuple #[])) (.c (.tuple #[]))))],
            .raw ⟨none, none, 7, [56], (.x (.clr [(.int .i64 0)] (.t 56)))⟩,
            .seg []
              [(0, (.t 0)), (3, (.t 3))]])
          (.seq (.segs [.seg [(.slc none 1 false true false (.t 0) (.c (.tuple #[])) (.t 3) (.c (.tuple #[]))), (.slc none 1 false true false (.t 0) (.c (.tuple #[])) (.t 3) (.c (.tuple #[])))]
              [(2, (.slc none 1 false true false (.t 0) (.c (.tuple #[])) (.t 3) (.c (.tuple #[]))))]])
          .ret))))
          .skip)))
      (.segs [.seg [(.bin .add (.t 3) (.c (.int .i64 1)))]
          [(0, (.t 0)), (3, (.bin .add (.t 3) (.c (.int .i64 1))))]]))))))
  (.seq (.segs [.seg [(.t 0)]
      [(2, (.t 0))]])
  .ret))))
def R_compact : List (Nat × Option (Option Nat)) := [(2, none)]
abbrev F_compact : FuncId := 23
theorem short_compact : shortP PP F_compact L_compact = some (S_compact, R_compact) := by kernel_rfl

def L_lawTells : List (List Nat) := [[0, 1, 2], [0, 1, 2, 19], [], [6], [0, 1, 2, 7, 8], [0, 1, 2, 7, 8, 22, 23], [0, 1, 2, 7, 8, 22, 23], [0, 1, 2, 7, 8, 22, 23, 24], [0, 1, 2, 7, 8, 9, 22, 23], [0, 1, 2, 7, 8, 9, 22, 23, 49], [0, 1, 2, 8, 22, 23, 50, 51], [0, 1, 2, 8, 22, 23, 50, 52], [0, 1, 2, 7, 8, 22, 23], [0, 1, 2, 7, 8, 22, 23], [0, 1, 2, 7, 8, 55, 56], [0, 1, 2, 7, 8, 10], [0, 1, 2, 7, 8, 10, 59, 60], [0, 1, 2, 7, 8, 10, 59, 60], [0, 1, 2, 7, 8, 10, 59, 60, 61], [0, 1, 2, 7, 8, 10, 11, 59, 60], [0, 1, 2, 7, 8, 10, 11, 59, 60, 76], [6], [0, 1, 2, 7, 8, 10, 11, 12, 59, 60], [0, 1, 2, 7, 8, 10, 11, 12, 59, 60, 78, 79], [0, 1, 2, 7, 8, 10, 11, 12, 59, 60, 78, 79], [0, 1, 2, 7, 8, 10, 11, 12, 59, 60, 78, 79, 80], [0, 1, 2, 7, 8, 10, 11, 12, 13, 59, 60, 78, 79], [0, 1, 2, 7, 8, 10, 11, 12, 59, 60, 78, 79], [0, 1, 2, 7, 8, 10, 11, 12, 59, 60, 78, 79], [0, 1, 2, 7, 8, 10, 11, 59, 60, 126], [0, 1, 2, 7, 10, 59, 60, 127, 131], [0, 1, 2, 7, 10, 59, 60, 127, 132], [0, 1, 2, 7, 8, 10, 59, 60], [0, 1, 2, 7, 8, 10, 59, 60], [0, 1, 2, 7, 8, 10, 136, 137], [0, 1, 2, 7, 8, 10, 136, 137], [0, 1, 2, 7, 8, 10, 136, 137, 138], [0, 1, 2, 7, 8, 10, 14, 136, 137], [0, 1, 2, 7, 8, 10, 14, 15, 136, 137], [0, 1, 2, 7, 8, 10, 14, 15, 136, 137, 169, 170], [0, 1, 2, 7, 8, 10, 14, 15, 136, 137, 169, 170], [0, 1, 2, 7, 8, 10, 14, 15, 136, 137, 169, 170, 171], [0, 1, 2, 7, 8, 10, 14, 15, 16, 136, 137, 169, 170], [0, 1, 2, 7, 8, 10, 14, 15, 136, 137, 169, 170], [0, 1, 2, 7, 8, 10, 14, 15, 136, 137, 169, 170], [0, 1, 2, 7, 8, 10, 136, 137, 188], [6], [0, 1, 2, 7, 8, 10, 136, 137], [7, 8, 10, 190, 191, 192], [8, 10, 193, 194], [196, 197, 198], [201], [6]]
def S_lawTells : SCode := (.seq (.segs [.seg []
      [(0, (.t 0)), (1, (.t 1)), (2, (.t 2))]])
  (.seq (.seq (.segs [.seg [(.bin .gtr (.slen (.t 0)) (.c (.int .i64 300)))]
      [(0, (.t 0)), (1, (.t 1)), (2, (.t 2)), (19, (.bin .gtr (.slen (.t 0)) (.c (.int .i64 300))))]])
  (.cond (.t 19)
    (.seq (.segs [.seg []
        [],
      .raw ⟨(some 20), none, 0, [], (.x (.callF 10 []))⟩,
      .seg [(.t 20)]
        [(6, (.t 20))]])
    .ret)
    .skip))
  (.seq (.segs [.seg []
      [(0, (.t 0)), (1, (.t 1)), (2, (.t 2)), (7, (.c (.slice none 0 0))), (8, (.c (.slice none 0 0)))]])
  (.seq (.seq (.segs [.seg [(.slen (.t 0))]
      [(0, (.t 0)), (1, (.t 1)), (2, (.t 2)), (7, (.t 7)), (8, (.t 8)), (22, (.slen (.t 0))), (23, (.c (.int .i64 0)))]])
  (.block 0
    (.loop [0, 1, 2, 7, 8, 22, 23]
      (.seq (.segs [.seg [(.bin .lss (.t 23) (.t 22))]
          [(0, (.t 0)), (1, (.t 1)), (2, (.t 2)), (7, (.t 7)), (8, (.t 8)), (22, (.t 22)), (23, (.t 23)), (24, (.bin .lss (.t 23) (.t 22)))]])
      (.seq (.cond (.t 24)
        .skip
        (.exit 0))
      (.seq (.block 1
        (.seq (.segs [.seg [(.t 23)]
            [(0, (.t 0)), (1, (.t 1)), (2, (.t 2)), (7, (.t 7)), (8, (.t 8)), (9, (.t 23)), (22, (.t 22)), (23, (.t 23))]])
        (.seq (.segs [.seg [(.pick (.pick (.bin .lss (.t 1) (.c (.int .i64 0))) (.c (.bool true)) (.bin .eql (.load none (.fad 1 (.iad none 6 (.t 0) (.t 9)))) (.t 1))) (.pick (.bin .lss (.t 2) (.c (.int .i64 0))) (.c (.bool true)) (.bin .eql (.load none (.fad 3 (.iad none 6 (.t 0) (.t 9)))) (.t 2))) (.c (.bool false)))]
            [(0, (.t 0)), (1, (.t 1)), (2, (.t 2)), (7, (.t 7)), (8, (.t 8)), (9, (.t 9)), (22, (.t 22)), (23, (.t 23)), (49, (.pick (.pick (.bin .lss (.t 1) (.c (.int .i64 0))) (.c (.bool true)) (.bin .eql (.load none (.fad 1 (.iad none 6 (.t 0) (.t 9)))) (.t 1))) (.pick (.bin .lss (.t 2) (.c (.int .i64 0))) (.c (.bool true)) (.bin .eql (.load none (.fad 3 (.iad none 6 (.t 0) (.t 9)))) (.t 2))) (.c (.bool false))))]])
        (.cond (.t 49)
          (.segs [.seg [(.t 7), (.t 9)]
              [(0, (.t 0)), (1, (.t 1)), (2, (.t 2)), (8, (.t 8)), (22, (.t 22)), (23, (.t 23)), (50, (.t 7)), (51, (.t 9))],
            .raw ⟨(some 52), none, 2, [51], (.a (.lit 1 [(.int .i64 0)] [(0, 1, (.t 51))]))⟩,
            .seg []
              [(0, (.t 0)), (1, (.t 1)), (2, (.t 2)), (8, (.t 8)), (22, (.t 22)), (23, (.t 23)), (50, (.t 50)), (52, (.t 52))],
            .raw ⟨(some 53), none, 7, [50, 52], (.x (.app 1 8 (.t 50) (.t 52)))⟩,
            .seg [(.t 53)]
              [(0, (.t 0)), (1, (.t 1)), (2, (.t 2)), (7, (.t 53)), (8, (.t 8)), (22, (.t 22)), (23, (.t 23))]])
          .skip))))
      (.segs [.seg [(.bin .add (.t 23) (.c (.int .i64 1)))]
          [(0, (.t 0)), (1, (.t 1)), (2, (.t 2)), (7, (.t 7)), (8, (.t 8)), (22, (.t 22)), (23, (.bin .add (.t 23) (.c (.int .i64 1))))]])))))))
  (.seq (.segs [.seg [(.t 0), (.t 2)]
      [(0, (.t 0)), (1, (.t 1)), (2, (.t 2)), (7, (.t 7)), (8, (.t 8)), (55, (.t 0)), (56, (.t 2))],
    .raw ⟨(some 57), none, 3, [55, 56], (.x (.callF 13 [(.t 55), (.t 56)]))⟩,
    .seg [(.t 57)]
      [(0, (.t 0)), (1, (.t 1)), (2, (.t 2)), (7, (.t 7)), (8, (.t 8)), (10, (.t 57))]])
  (.seq (.seq (.segs [.seg [(.slen (.t 10))]
      [(0, (.t 0)), (1, (.t 1)), (2, (.t 2)), (7, (.t 7)), (8, (.t 8)), (10, (.t 10)), (59, (.slen (.t 10))), (60, (.c (.int .i64 0)))]])
  (.block 2
    (.loop [0, 1, 2, 7, 8, 10, 59, 60]
      (.seq (.segs [.seg [(.bin .lss (.t 60) (.t 59))]
          [(0, (.t 0)), (1, (.t 1)), (2, (.t 2)), (7, (.t 7)), (8, (.t 8)), (10, (.t 10)), (59, (.t 59)), (60, (.t 60)), (61, (.bin .lss (.t 60) (.t 59)))]])
      (.seq (.cond (.t 61)
        .skip
        (.exit 2))
      (.seq (.block 3
        (.seq (.segs [.seg [(.t 60)]
            [(0, (.t 0)), (1, (.t 1)), (2, (.t 2)), (7, (.t 7)), (8, (.t 8)), (10, (.t 10)), (11, (.t 60)), (59, (.t 59)), (60, (.t 60))]])
        (.seq (.seq (.quiet 14 [(.pick (.bin .gtr (.t 11) (.c (.int .i64 0))) (.bin .leq (.load none (.iad none 1 (.t 10) (.t 11))) (.load none (.iad none 1 (.t 10) (.bin .sub (.t 11) (.c (.int .i64 1)))))) (.c (.bool false)))]
            [(0, (.t 0)), (1, (.t 1)), (2, (.t 2)), (7, (.t 7)), (8, (.t 8)), (10, (.t 10)), (11, (.t 11)), (59, (.t 59)), (60, (.t 60)), (76, (.pick (.bin .gtr (.t 11) (.c (.int .i64 0))) (.bin .leq (.load none (.iad none 1 (.t 10) (.t 11))) (.load none (.iad none 1 (.t 10) (.bin .sub (.t 11) (.c (.int .i64 1)))))) (.c (.bool false))))])
        (.cond (.t 76)
          (.seq (.segs [.seg []
              [(6, (.c (.bool false)))]])
          .ret)
          .skip))
        (.seq (.segs [.seg []
            [(0, (.t 0)), (1, (.t 1)), (2, (.t 2)), (7, (.t 7)), (8, (.t 8)), (10, (.t 10)), (11, (.t 11)), (12, (.c (.bool false))), (59, (.t 59)), (60, (.t 60))]])
        (.seq (.seq (.segs [.seg [(.slen (.t 0))]
            [(0, (.t 0)), (1, (.t 1)), (2, (.t 2)), (7, (.t 7)), (8, (.t 8)), (10, (.t 10)), (11, (.t 11)), (12, (.t 12)), (59, (.t 59)), (60, (.t 60)), (78, (.slen (.t 0))), (79, (.c (.int .i64 0)))]])
        (.block 4
          (.loop [0, 1, 2, 7, 8, 10, 11, 12, 59, 60, 78, 79]
            (.seq (.segs [.seg [(.bin .lss (.t 79) (.t 78))]
                [(0, (.t 0)), (1, (.t 1)), (2, (.t 2)), (7, (.t 7)), (8, (.t 8)), (10, (.t 10)), (11, (.t 11)), (12, (.t 12)), (59, (.t 59)), (60, (.t 60)), (78, (.t 78)), (79, (.t 79)), (80, (.bin .lss (.t 79) (.t 78)))]])
            (.seq (.cond (.t 80)
              .skip
              (.exit 4))
            (.seq (.block 5
              (.seq (.segs [.seg [(.t 79)]
                  [(0, (.t 0)), (1, (.t 1)), (2, (.t 2)), (7, (.t 7)), (8, (.t 8)), (10, (.t 10)), (11, (.t 11)), (12, (.t 12)), (13, (.t 79)), (59, (.t 59)), (60, (.t 60)), (78, (.t 78)), (79, (.t 79))]])
              (.quiet 44 [(.pick (.t 12) (.c (.bool true)) (.pick (.pick (.bin .eql (.load none (.fad 1 (.iad none 6 (.t 0) (.t 13)))) (.load none (.iad none 1 (.t 10) (.t 11)))) (.bin .eql (.load none (.fad 3 (.iad none 6 (.t 0) (.t 13)))) (.t 2)) (.c (.bool false))) (.pick (.bin .eql (.load none (.fad 2 (.iad none 6 (.t 0) (.t 13)))) (.c (.int .i64 1))) (.c (.bool true)) (.bin .neq (.load none (.fad 5 (.iad none 6 (.t 0) (.t 13)))) (.load none (.fad 4 (.iad none 6 (.t 0) (.t 13)))))) (.c (.bool false))))]
                  [(0, (.t 0)), (1, (.t 1)), (2, (.t 2)), (7, (.t 7)), (8, (.t 8)), (10, (.t 10)), (11, (.t 11)), (12, (.pick (.t 12) (.c (.bool true)) (.pick (.pick (.bin .eql (.load none (.fad 1 (.iad none 6 (.t 0) (.t 13)))) (.load none (.iad none 1 (.t 10) (.t 11)))) (.bin .eql (.load none (.fad 3 (.iad none 6 (.t 0) (.t 13)))) (.t 2)) (.c (.bool false))) (.pick (.bin .eql (.load none (.fad 2 (.iad none 6 (.t 0) (.t 13)))) (.c (.int .i64 1))) (.c (.bool true)) (.bin .neq (.load none (.fad 5 (.iad none 6 (.t 0) (.t 13)))) (.load none (.fad 4 (.iad none 6 (.t 0) (.t 13)))))) (.c (.bool false))))), (59, (.t 59)), (60, (.t 60)), (78, (.t 78)), (79, (.t 79))])))
            (.segs [.seg [(.bin .add (.t 79) (.c (.int .i64 1)))]
                [(0, (.t 0)), (1, (.t 1)), (2, (.t 2)), (7, (.t 7)), (8, (.t 8)), (10, (.t 10)), (11, (.t 11)), (12, (.t 12)), (59, (.t 59)), (60, (.t 60)), (78, (.t 78)), (79, (.bin .add (.t 79) (.c (.int .i64 1))))]])))))))
        (.seq (.segs [.seg [(.t 12)]
            [(0, (.t 0)), (1, (.t 1)), (2, (.t 2)), (7, (.t 7)), (8, (.t 8)), (10, (.t 10)), (11, (.t 11)), (59, (.t 59)), (60, (.t 60)), (126, (.t 12))]])
        (.cond (.t 126)
          (.segs [.seg [(.t 8), (.load none (.iad none 1 (.t 10) (.t 11)))]
              [(0, (.t 0)), (1, (.t 1)), (2, (.t 2)), (7, (.t 7)), (10, (.t 10)), (59, (.t 59)), (60, (.t 60)), (127, (.t 8)), (131, (.load none (.iad none 1 (.t 10) (.t 11))))],
            .raw ⟨(some 132), none, 30, [131], (.a (.lit 1 [(.int .i64 0)] [(0, 1, (.t 131))]))⟩,
            .seg []
              [(0, (.t 0)), (1, (.t 1)), (2, (.t 2)), (7, (.t 7)), (10, (.t 10)), (59, (.t 59)), (60, (.t 60)), (127, (.t 127)), (132, (.t 132))],
            .raw ⟨(some 133), none, 63, [127, 132], (.x (.app 1 8 (.t 127) (.t 132)))⟩,
            .seg [(.t 133)]
              [(0, (.t 0)), (1, (.t 1)), (2, (.t 2)), (7, (.t 7)), (8, (.t 133)), (10, (.t 10)), (59, (.t 59)), (60, (.t 60))]])
          .skip)))))))
      (.segs [.seg [(.bin .add (.t 60) (.c (.int .i64 1)))]
          [(0, (.t 0)), (1, (.t 1)), (2, (.t 2)), (7, (.t 7)), (8, (.t 8)), (10, (.t 10)), (59, (.t 59)), (60, (.bin .add (.t 60) (.c (.int .i64 1))))]])))))))
  (.seq (.seq (.segs [.seg [(.slen (.t 0))]
      [(0, (.t 0)), (1, (.t 1)), (2, (.t 2)), (7, (.t 7)), (8, (.t 8)), (10, (.t 10)), (136, (.slen (.t 0))), (137, (.c (.int .i64 0)))]])
  (.block 6
    (.loop [0, 1, 2, 7, 8, 10, 136, 137]
      (.seq (.segs [.seg [(.bin .lss (.t 137) (.t 136))]
          [(0, (.t 0)), (1, (.t 1)), (2, (.t 2)), (7, (.t 7)), (8, (.t 8)), (10, (.t 10)), (136, (.t 136)), (137, (.t 137)), (138, (.bin .lss (.t 137) (.t 136)))]])
      (.seq (.cond (.t 138)
        .skip
        (.exit 6))
      (.seq (.block 7
        (.seq (.segs [.seg [(.t 137)]
            [(0, (.t 0)), (1, (.t 1)), (2, (.t 2)), (7, (.t 7)), (8, (.t 8)), (10, (.t 10)), (14, (.t 137)), (136, (.t 136)), (137, (.t 137))]])
        (.seq (.quiet 29 [(.pick (.bin .neq (.load none (.fad 3 (.iad none 6 (.t 0) (.t 14)))) (.t 2)) (.c (.bool true)) (.pick (.bin .neq (.load none (.fad 2 (.iad none 6 (.t 0) (.t 14)))) (.c (.int .i64 1))) (.bin .eql (.load none (.fad 5 (.iad none 6 (.t 0) (.t 14)))) (.load none (.fad 4 (.iad none 6 (.t 0) (.t 14))))) (.c (.bool false))))]
            [(0, (.t 0)), (1, (.t 1)), (2, (.t 2)), (7, (.t 7)), (8, (.t 8)), (10, (.t 10)), (14, (.t 14)), (15, (.pick (.bin .neq (.load none (.fad 3 (.iad none 6 (.t 0) (.t 14)))) (.t 2)) (.c (.bool true)) (.pick (.bin .neq (.load none (.fad 2 (.iad none 6 (.t 0) (.t 14)))) (.c (.int .i64 1))) (.bin .eql (.load none (.fad 5 (.iad none 6 (.t 0) (.t 14)))) (.load none (.fad 4 (.iad none 6 (.t 0) (.t 14))))) (.c (.bool false))))), (136, (.t 136)), (137, (.t 137))])
        (.seq (.seq (.segs [.seg [(.slen (.t 10))]
            [(0, (.t 0)), (1, (.t 1)), (2, (.t 2)), (7, (.t 7)), (8, (.t 8)), (10, (.t 10)), (14, (.t 14)), (15, (.t 15)), (136, (.t 136)), (137, (.t 137)), (169, (.slen (.t 10))), (170, (.c (.int .i64 0)))]])
        (.block 8
          (.loop [0, 1, 2, 7, 8, 10, 14, 15, 136, 137, 169, 170]
            (.seq (.segs [.seg [(.bin .lss (.t 170) (.t 169))]
                [(0, (.t 0)), (1, (.t 1)), (2, (.t 2)), (7, (.t 7)), (8, (.t 8)), (10, (.t 10)), (14, (.t 14)), (15, (.t 15)), (136, (.t 136)), (137, (.t 137)), (169, (.t 169)), (170, (.t 170)), (171, (.bin .lss (.t 170) (.t 169)))]])
            (.seq (.cond (.t 171)
              .skip
              (.exit 8))
            (.seq (.block 9
              (.seq (.segs [.seg [(.t 170)]
                  [(0, (.t 0)), (1, (.t 1)), (2, (.t 2)), (7, (.t 7)), (8, (.t 8)), (10, (.t 10)), (14, (.t 14)), (15, (.t 15)), (16, (.t 170)), (136, (.t 136)), (137, (.t 137)), (169, (.t 169)), (170, (.t 170))]])
              (.quiet 14 [(.pick (.t 15) (.c (.bool true)) (.bin .eql (.load none (.iad none 1 (.t 10) (.t 16))) (.load none (.fad 1 (.iad none 6 (.t 0) (.t 14))))))]
                  [(0, (.t 0)), (1, (.t 1)), (2, (.t 2)), (7, (.t 7)), (8, (.t 8)), (10, (.t 10)), (14, (.t 14)), (15, (.pick (.t 15) (.c (.bool true)) (.bin .eql (.load none (.iad none 1 (.t 10) (.t 16))) (.load none (.fad 1 (.iad none 6 (.t 0) (.t 14))))))), (136, (.t 136)), (137, (.t 137)), (169, (.t 169)), (170, (.t 170))])))
            (.segs [.seg [(.bin .add (.t 170) (.c (.int .i64 1)))]
                [(0, (.t 0)), (1, (.t 1)), (2, (.t 2)), (7, (.t 7)), (8, (.t 8)), (10, (.t 10)), (14, (.t 14)), (15, (.t 15)), (136, (.t 136)), (137, (.t 137)), (169, (.t 169)), (170, (.bin .add (.t 170) (.c (.int .i64 1))))]])))))))
        (.seq (.segs [.seg [(.un .not (.t 15))]
            [(0, (.t 0)), (1, (.t 1)), (2, (.t 2)), (7, (.t 7)), (8, (.t 8)), (10, (.t 10)), (136, (.t 136)), (137, (.t 137)), (188, (.un .not (.t 15)))]])
        (.cond (.t 188)
          (.seq (.segs [.seg []
              [(6, (.c (.bool false)))]])
          .ret)
          .skip))))))
      (.segs [.seg [(.bin .add (.t 137) (.c (.int .i64 1)))]
          [(0, (.t 0)), (1, (.t 1)), (2, (.t 2)), (7, (.t 7)), (8, (.t 8)), (10, (.t 10)), (136, (.t 136)), (137, (.bin .add (.t 137) (.c (.int .i64 1))))]])))))))
  (.seq (.segs [.seg [(.t 0), (.t 1), (.t 2)]
      [(7, (.t 7)), (8, (.t 8)), (10, (.t 10)), (190, (.t 0)), (191, (.t 1)), (192, (.t 2))],
    .raw ⟨(some 193), none, 7, [190, 191, 192], (.x (.callF 14 [(.t 190), (.t 191), (.t 192)]))⟩,
    .seg [(.t 7)]
      [(8, (.t 8)), (10, (.t 10)), (193, (.t 193)), (194, (.t 7))],
    .raw ⟨(some 195), none, 31, [193, 194], (.x (.callF 7 [(.t 193), (.t 194)]))⟩,
    .seg [(.gd (.t 195) true (.t 10)), (.gd (.t 195) true (.t 8))]
      [(196, (.t 195)), (197, (.gd (.t 195) true (.t 10))), (198, (.gd (.t 195) true (.t 8)))],
    .raw ⟨(some 199), (some (196, true)), 511, [197, 198, 196], (.x (.callF 7 [(.t 197), (.t 198)]))⟩,
    .seg [(.pick (.t 196) (.t 199) (.c (.bool false)))]
      [(201, (.pick (.t 196) (.t 199) (.c (.bool false))))],
    .raw ⟨(some 202), (some (201, true)), 4095, [201], (.x (.callF 10 []))⟩,
    .seg [(.pick (.t 201) (.t 202) (.c (.bool false)))]
      [(6, (.pick (.t 201) (.t 202) (.c (.bool false))))]])
  .ret))))))))
def R_lawTells : List (Nat × Option (Option Nat)) := [(6, none)]
abbrev F_lawTells : FuncId := 5
theorem short_lawTells : shortP PP F_lawTells L_lawTells = some (S_lawTells, R_lawTells) := by kernel_rfl

def L_ints : List (List Nat) := [[0, 1], [0, 1, 10], [4], [0, 1, 12, 13], [0, 1, 12, 13], [0, 1, 12, 13, 14], [0, 1, 5, 12, 13], [0, 1, 12, 13, 24], [4], [0, 1, 12, 13], [4]]
def S_ints : SCode := (.seq (.segs [.seg []
      [(0, (.t 0)), (1, (.t 1))]])
  (.seq (.seq (.segs [.seg [(.bin .neq (.slen (.t 0)) (.slen (.t 1)))]
      [(0, (.t 0)), (1, (.t 1)), (10, (.bin .neq (.slen (.t 0)) (.slen (.t 1))))]])
  (.cond (.t 10)
    (.seq (.segs [.seg []
        [(4, (.c (.bool false)))]])
    .ret)
    .skip))
  (.seq (.seq (.segs [.seg [(.slen (.t 0))]
      [(0, (.t 0)), (1, (.t 1)), (12, (.slen (.t 0))), (13, (.c (.int .i64 0)))]])
  (.block 0
    (.loop [0, 1, 12, 13]
      (.seq (.segs [.seg [(.bin .lss (.t 13) (.t 12))]
          [(0, (.t 0)), (1, (.t 1)), (12, (.t 12)), (13, (.t 13)), (14, (.bin .lss (.t 13) (.t 12)))]])
      (.seq (.cond (.t 14)
        .skip
        (.exit 0))
      (.seq (.block 1
        (.seq (.segs [.seg [(.t 13)]
            [(0, (.t 0)), (1, (.t 1)), (5, (.t 13)), (12, (.t 12)), (13, (.t 13))]])
        (.seq (.quiet 9 [(.bin .neq (.load none (.iad none 1 (.t 0) (.t 5))) (.load none (.iad none 1 (.t 1) (.t 5))))]
            [(0, (.t 0)), (1, (.t 1)), (12, (.t 12)), (13, (.t 13)), (24, (.bin .neq (.load none (.iad none 1 (.t 0) (.t 5))) (.load none (.iad none 1 (.t 1) (.t 5)))))])
        (.cond (.t 24)
          (.seq (.segs [.seg []
              [(4, (.c (.bool false)))]])
          .ret)
          .skip))))
      (.segs [.seg [(.bin .add (.t 13) (.c (.int .i64 1)))]
          [(0, (.t 0)), (1, (.t 1)), (12, (.t 12)), (13, (.bin .add (.t 13) (.c (.int .i64 1))))]])))))))
  (.seq (.segs [.seg []
      [(4, (.c (.bool true)))]])
  .ret))))
def R_ints : List (Nat × Option (Option Nat)) := [(4, none)]
abbrev F_ints : FuncId := 7
theorem short_ints : shortP PP F_ints L_ints = some (S_ints, R_ints) := by kernel_rfl

end Go.Can
