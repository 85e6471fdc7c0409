/- The program's functions in the small form. Printed by a program (mkcode.py). No conditions. -/
import Derived.Test.YtedaolnhkjjfhaaA0
import Derived.Control
import Derived.Below
import Derived.RangeFuncOwn
import Derived.Laws.Sem
import Derived.Laws.Cells
import Derived.Laws.World
import Derived.Laws.Strings
import Derived.Laws.Small
set_option linter.unusedVariables false
set_option linter.unusedSimpArgs false
set_option linter.unnecessarySimpa false
namespace Go.Abs
/-- slices.Sorted[int] -/
def slices_Sorted_int : FnIR := ⟨1, 9, [.t 2],
 (.seq (some ([0], []))
  (.ops [
    ⟨(some 2), none, .mv (.c (.list [] true))⟩])
  (.seq (some ([3], []))
   (.ops [
     ⟨(some 4), none, .mv (.t 0)⟩,
     ⟨(some 5), none, .call (.f slices_Collect_int_id) [(.t 4)]⟩,
     ⟨(some 3), none, .mv (.t 5)⟩])
   (.seq (some ([3], []))
    (.ops [
      ⟨(some 6), none, .mv (.t 3)⟩,
      ⟨(some 7), none, .call (.f slices_Sort_int_int_id) [(.t 6)]⟩])
    (.seq none
     (.ops [
       ⟨(some 8), none, .mv (.t 3)⟩,
       ⟨(some 2), none, .mv (.t 8)⟩])
     .ret))))⟩

/-- maps.Keys[map[int]bool,int,bool] -/
def maps_Keys_map_int_bool_int_bool : FnIR := ⟨1, 4, [.t 2],
 (.seq (some ([1], [1]))
  (.ops [
    ⟨(some 1), none, .box 1 (.t 0)⟩,
    ⟨(some 2), none, .mv (.c .nilfn)⟩])
  (.seq none
   (.ops [
     ⟨(some 3), none, .mkfn maps_Keys_map_int_bool_int_bool_1_id [] [(.t 1)]⟩,
     ⟨(some 2), none, .mv (.t 3)⟩])
   .ret))⟩

def ref53_over_l0 : IR :=
 (.seq (some ([0, 2, 3, 5, 9], [5]))
  (.seq (some ([0, 2, 3, 5, 9, 15], [5]))
   (.ops [
     ⟨(some 12), none, .mv (.t 9)⟩,
     ⟨(some 13), none, .mv (.t 2)⟩,
     ⟨(some 14), none, .blen .slice (.t 13)⟩,
     ⟨(some 15), none, .bin .lss (.t 12) (.t 14)⟩])
   (.cond (.t 15)
    .skip
    (.exit 0)))
  (.seq (some ([0, 2, 3, 5, 9], [5]))
   (.block 1
    (.seq (some ([0, 2, 3, 5, 9], [5]))
     (.seq (some ([0, 2, 3, 5, 9, 24], [5]))
      (.ops [
        ⟨(some 18), none, .mv (.t 2)⟩,
        ⟨(some 19), none, .mv (.t 9)⟩,
        ⟨(some 20), none, .iaddr 5 (.t 18) (.t 19)⟩,
        ⟨(some 21), none, .faddr 4 (.t 20)⟩,
        ⟨(some 22), none, .load false 1 (.t 21)⟩,
        ⟨(some 23), none, .mv (.t 3)⟩,
        ⟨(some 24), none, .bin .gtr (.t 22) (.t 23)⟩])
      (.cond (.t 24)
       (.exit 1)
       .skip))
     (.seq (some ([0, 2, 3, 5, 9, 10], [5]))
      (.ops [
        ⟨(some 26), none, .mv (.t 0)⟩,
        ⟨(some 27), none, .mv (.t 2)⟩,
        ⟨(some 28), none, .mv (.t 9)⟩,
        ⟨(some 29), none, .iaddr 5 (.t 27) (.t 28)⟩,
        ⟨(some 30), none, .faddr 1 (.t 29)⟩,
        ⟨(some 31), none, .load false 1 (.t 30)⟩,
        ⟨(some 32), none, .mv (.t 2)⟩,
        ⟨(some 33), none, .mv (.t 9)⟩,
        ⟨(some 34), none, .iaddr 5 (.t 32) (.t 33)⟩,
        ⟨(some 35), none, .faddr 3 (.t 34)⟩,
        ⟨(some 36), none, .load false 1 (.t 35)⟩,
        ⟨(some 37), none, .mv (.t 3)⟩,
        ⟨(some 38), none, .call (.f ref18_Standing_id) [(.t 26), (.t 31), (.t 36), (.t 37)]⟩,
        ⟨(some 25), none, .mv (.t 38)⟩,
        ⟨(some 39), none, .ext (.t 25) 0⟩,
        ⟨(some 40), none, .ext (.t 25) 1⟩,
        ⟨(some 10), none, .mv (.t 39)⟩,
        ⟨(some 11), none, .mv (.t 40)⟩])
      (.seq (some ([0, 2, 3, 5, 9, 55], [5]))
       (.ops [
         ⟨(some 41), none, .mv (.t 10)⟩,
         ⟨(some 42), none, .faddr 0 (.t 5)⟩,
         ⟨(some 43), none, .load false 1 (.t 42)⟩,
         ⟨(some 44), none, .call (.f ref53_has_id) [(.t 41), (.t 43)]⟩,
         ⟨(some 45), none, .mv (.t 44)⟩,
         ⟨(some 46), (some (45, true)), .load true 8 (.t 5)⟩,
         ⟨(some 47), (some (45, true)), .mv (.t 2)⟩,
         ⟨(some 48), (some (45, true)), .mv (.t 2)⟩,
         ⟨(some 49), (some (45, true)), .mv (.t 9)⟩,
         ⟨(some 50), (some (45, true)), .iaddr 5 (.t 48) (.t 49)⟩,
         ⟨(some 51), (some (45, true)), .faddr 3 (.t 50)⟩,
         ⟨(some 52), (some (45, true)), .load false 1 (.t 51)⟩,
         ⟨(some 53), (some (45, true)), .mv (.t 3)⟩,
         ⟨(some 54), (some (45, true)), .call (.f ref53_tooMuch_id) [(.t 46), (.t 47), (.t 52), (.t 53)]⟩,
         ⟨(some 55), none, .pick (.t 45) (.t 54) (.c (.bool false))⟩])
       (.cond (.t 55)
        (.seq none
         (.ops [
           ⟨(some 8), none, .mv (.c (.bool true))⟩])
         .ret)
        .skip)))))
   (.ops [
     ⟨(some 16), none, .mv (.t 9)⟩,
     ⟨(some 17), none, .bin .add (.t 16) (.c (.int .i64 1))⟩,
     ⟨(some 9), none, .mv (.t 17)⟩])))
/-- signatory/signatoryref53.over -/
def ref53_over : FnIR := ⟨4, 56, [.t 8],
 (.seq (some ([0, 2, 3, 5], [5]))
  (.ops [
    ⟨(some 5), none, .box 8 (.t 1)⟩,
    ⟨(some 8), none, .mv (.c (.bool false))⟩])
  (.seq (some ([], []))
   (.seq (some ([0, 2, 3, 5, 9], [5]))
    (.ops [
      ⟨(some 9), none, .mv (.c (.int .i64 0))⟩])
    (.block 0
     (.loop ref53_over_l0)))
   (.seq none
    (.ops [
      ⟨(some 8), none, .mv (.c (.bool false))⟩])
    .ret)))⟩

/-- (signatory/accounts.book).in -/
def accounts_book_in : FnIR := ⟨2, 6, [.t 4],
 (.seq (some ([2, 3], [2, 3]))
  (.ops [
    ⟨(some 2), none, .box 10 (.t 0)⟩,
    ⟨(some 3), none, .box 1 (.t 1)⟩,
    ⟨(some 4), none, .mv (.c .nilfn)⟩])
  (.seq none
   (.ops [
     ⟨(some 5), none, .mkfn accounts_book_in_1_id [] [(.t 2), (.t 3)]⟩,
     ⟨(some 4), none, .mv (.t 5)⟩])
   .ret))⟩

/-- (signatory/accounts.sum).add -/
def accounts_sum_add : FnIR := ⟨2, 14, [.cell 4 true 2],
 (.seq (some ([2, 3, 4], [2, 3, 4]))
  (.ops [
    ⟨(some 2), none, .box 2 (.t 0)⟩,
    ⟨(some 3), none, .box 5 (.t 1)⟩,
    ⟨(some 4), none, .alloc [(.int .i64 0), (.int .i64 0)]⟩])
  (.seq none
   (.ops [
     ⟨(some 5), none, .faddr 0 (.t 2)⟩,
     ⟨(some 6), none, .load false 1 (.t 5)⟩,
     ⟨(some 7), none, .bin .add (.t 6) (.c (.int .i64 1))⟩,
     ⟨(some 8), none, .faddr 1 (.t 2)⟩,
     ⟨(some 9), none, .load false 1 (.t 8)⟩,
     ⟨(some 10), none, .faddr 2 (.t 3)⟩,
     ⟨(some 11), none, .load false 1 (.t 10)⟩,
     ⟨(some 12), none, .bin .add (.t 9) (.t 11)⟩,
     ⟨(some 13), none, .build [(.int .i64 0), (.int .i64 0)] [(0, 1, (.t 7)), (1, 1, (.t 12))]⟩,
     ⟨none, none, .store 2 (.t 4) (.t 13)⟩])
   .ret))⟩

/-- maps.Keys[map[int]signatory/accounts.sum,int,signatory/accounts.sum] -/
def maps_Keys_map_int_accounts_sum_int_accounts_sum : FnIR := ⟨1, 4, [.t 2],
 (.seq (some ([1], [1]))
  (.ops [
    ⟨(some 1), none, .box 1 (.t 0)⟩,
    ⟨(some 2), none, .mv (.c .nilfn)⟩])
  (.seq none
   (.ops [
     ⟨(some 3), none, .mkfn maps_Keys_map_int_accounts_sum_int_accounts_sum_1_id [] [(.t 1)]⟩,
     ⟨(some 2), none, .mv (.t 3)⟩])
   .ret))⟩

/-- signatory/signatoryref53.of -/
def ref53_of : FnIR := ⟨3, 23, [.t 6],
 (.seq (some ([2, 3, 4], [3, 4]))
  (.ops [
    ⟨(some 3), none, .box 8 (.t 0)⟩,
    ⟨(some 4), none, .box 5 (.t 1)⟩,
    ⟨(some 6), none, .mv (.c (.bool false))⟩])
  (.seq none
   (.ops [
     ⟨(some 7), none, .faddr 4 (.t 4)⟩,
     ⟨(some 8), none, .load false 1 (.t 7)⟩,
     ⟨(some 9), none, .mv (.t 2)⟩,
     ⟨(some 10), none, .bin .leq (.t 8) (.t 9)⟩,
     ⟨(some 11), none, .mv (.t 10)⟩,
     ⟨(some 12), (some (11, true)), .faddr 3 (.t 3)⟩,
     ⟨(some 13), (some (11, true)), .load false 1 (.t 12)⟩,
     ⟨(some 14), (some (11, true)), .bin .eql (.t 13) (.c (.int .i64 (-1)))⟩,
     ⟨(some 15), (some (11, true)), .mv (.t 14)⟩,
     ⟨(some 16), (some (15, false)), .faddr 3 (.t 3)⟩,
     ⟨(some 17), (some (15, false)), .load false 1 (.t 16)⟩,
     ⟨(some 18), (some (15, false)), .faddr 1 (.t 4)⟩,
     ⟨(some 19), (some (15, false)), .load false 1 (.t 18)⟩,
     ⟨(some 20), (some (15, false)), .bin .eql (.t 17) (.t 19)⟩,
     ⟨(some 21), (some (11, true)), .pick (.t 15) (.c (.bool true)) (.t 20)⟩,
     ⟨(some 22), none, .pick (.t 11) (.t 21) (.c (.bool false))⟩,
     ⟨(some 6), none, .mv (.t 22)⟩])
   .ret))⟩

def ref53_put_l0 : IR :=
 (.seq (some ([0, 1, 5], []))
  (.seq (some ([0, 1, 5, 17], []))
   (.ops [
     ⟨(some 6), none, .mv (.t 5)⟩,
     ⟨(some 7), none, .mv (.t 0)⟩,
     ⟨(some 8), none, .blen .slice (.t 7)⟩,
     ⟨(some 9), none, .bin .lss (.t 6) (.t 8)⟩,
     ⟨(some 10), none, .mv (.t 9)⟩,
     ⟨(some 11), (some (10, true)), .mv (.t 0)⟩,
     ⟨(some 12), (some (10, true)), .mv (.t 5)⟩,
     ⟨(some 13), (some (10, true)), .iaddr 1 (.t 11) (.t 12)⟩,
     ⟨(some 14), (some (10, true)), .load false 1 (.t 13)⟩,
     ⟨(some 15), (some (10, true)), .mv (.t 1)⟩,
     ⟨(some 16), (some (10, true)), .bin .lss (.t 14) (.t 15)⟩,
     ⟨(some 17), none, .pick (.t 10) (.t 16) (.c (.bool false))⟩])
   (.cond (.t 17)
    .skip
    (.exit 0)))
  (.block 1
   (.ops [
     ⟨(some 18), none, .mv (.t 5)⟩,
     ⟨(some 19), none, .bin .add (.t 18) (.c (.int .i64 1))⟩,
     ⟨(some 5), none, .mv (.t 19)⟩])))
/-- signatory/signatoryref53.put -/
def ref53_put : FnIR := ⟨2, 45, [.t 4],
 (.seq (some ([0, 1], []))
  (.ops [
    ⟨(some 4), none, .mv (.c (.list [] true))⟩])
  (.seq (some ([0, 1, 5], []))
   (.ops [
     ⟨(some 5), none, .mv (.c (.int .i64 0))⟩])
   (.seq (some ([0, 1, 5], []))
    (.block 0
     (.loop ref53_put_l0))
    (.seq (some ([0, 1, 5], []))
     (.seq (some ([0, 1, 5, 31], []))
      (.ops [
        ⟨(some 20), none, .mv (.t 5)⟩,
        ⟨(some 21), none, .mv (.t 0)⟩,
        ⟨(some 22), none, .blen .slice (.t 21)⟩,
        ⟨(some 23), none, .bin .lss (.t 20) (.t 22)⟩,
        ⟨(some 24), none, .mv (.t 23)⟩,
        ⟨(some 25), (some (24, true)), .mv (.t 0)⟩,
        ⟨(some 26), (some (24, true)), .mv (.t 5)⟩,
        ⟨(some 27), (some (24, true)), .iaddr 1 (.t 25) (.t 26)⟩,
        ⟨(some 28), (some (24, true)), .load false 1 (.t 27)⟩,
        ⟨(some 29), (some (24, true)), .mv (.t 1)⟩,
        ⟨(some 30), (some (24, true)), .bin .eql (.t 28) (.t 29)⟩,
        ⟨(some 31), none, .pick (.t 24) (.t 30) (.c (.bool false))⟩])
      (.cond (.t 31)
       (.seq none
        (.ops [
          ⟨(some 32), none, .mv (.t 0)⟩,
          ⟨(some 4), none, .mv (.t 32)⟩])
        .ret)
       .skip))
     (.seq none
      (.draw [
        ⟨0, false, ⟨(some 33), none, .bslice false 1 false [(.int .i64 0)] 0 []⟩⟩,
        ⟨1, false, ⟨(some 34), none, .mv (.t 0)⟩⟩,
        ⟨2, false, ⟨(some 35), none, .mv (.t 5)⟩⟩,
        ⟨3, false, ⟨(some 36), none, .slice 1 (.t 34) none (some (.t 35)) none⟩⟩,
        ⟨5, true, ⟨(some 38), none, .mv (.t 1)⟩⟩,
        ⟨6, true, ⟨(some 39), none, .bslice false 1 false [(.int .i64 0)] 1 [(0, (.t 38))]⟩⟩,
        ⟨8, true, ⟨(some 41), none, .mv (.t 0)⟩⟩,
        ⟨9, true, ⟨(some 42), none, .mv (.t 5)⟩⟩,
        ⟨10, true, ⟨(some 43), none, .slice 1 (.t 41) (some (.t 42)) none none⟩⟩,
        ⟨4, false, ⟨(some 37), none, .append false 1 false 8 (.t 33) (.t 36)⟩⟩,
        ⟨7, false, ⟨(some 40), none, .append false 1 false 8 (.t 37) (.t 39)⟩⟩,
        ⟨11, false, ⟨(some 44), none, .append false 1 false 8 (.t 40) (.t 43)⟩⟩,
        ⟨12, false, ⟨(some 4), none, .mv (.t 44)⟩⟩])
      .ret)))))⟩

/-- signatory/signatoryref53.tooMuch -/
def ref53_tooMuch : FnIR := ⟨4, 29, [.t 8],
 (.seq (some ([1, 2, 3, 4], [4]))
  (.ops [
    ⟨(some 4), none, .box 8 (.t 0)⟩,
    ⟨(some 8), none, .mv (.c (.bool false))⟩])
  (.seq (some ([4, 9, 10], [4]))
   (.ops [
     ⟨(some 12), none, .load true 8 (.t 4)⟩,
     ⟨(some 13), none, .mv (.t 1)⟩,
     ⟨(some 14), none, .mv (.t 2)⟩,
     ⟨(some 15), none, .mv (.t 3)⟩,
     ⟨(some 16), none, .call (.f ref53_spent_id) [(.t 12), (.t 13), (.t 14), (.t 15)]⟩,
     ⟨(some 11), none, .mv (.t 16)⟩,
     ⟨(some 17), none, .ext (.t 11) 0⟩,
     ⟨(some 18), none, .ext (.t 11) 1⟩,
     ⟨(some 9), none, .mv (.t 17)⟩,
     ⟨(some 10), none, .mv (.t 18)⟩])
   (.seq none
    (.ops [
      ⟨(some 19), none, .mv (.t 9)⟩,
      ⟨(some 20), none, .faddr 5 (.t 4)⟩,
      ⟨(some 21), none, .load false 1 (.t 20)⟩,
      ⟨(some 22), none, .bin .gtr (.t 19) (.t 21)⟩,
      ⟨(some 23), none, .mv (.t 22)⟩,
      ⟨(some 24), (some (23, false)), .mv (.t 10)⟩,
      ⟨(some 25), (some (23, false)), .faddr 6 (.t 4)⟩,
      ⟨(some 26), (some (23, false)), .load false 1 (.t 25)⟩,
      ⟨(some 27), (some (23, false)), .bin .gtr (.t 24) (.t 26)⟩,
      ⟨(some 28), none, .pick (.t 23) (.c (.bool true)) (.t 27)⟩,
      ⟨(some 8), none, .mv (.t 28)⟩])
    .ret)))⟩

def budgets_Check_l0 : IR :=
 (.seq (some ([3, 9, 10, 11, 12], [5]))
  (.ops [
    ⟨(some 12), none, .bin .lss (.t 11) (.t 10)⟩])
  (.seq (some ([3, 9, 10, 11], [5]))
   (.cond (.t 12)
    .skip
    (.exit 0))
   (.seq (some ([3, 9, 10, 11], [5]))
    (.block 1
     (.seq (some ([3, 5, 9, 10, 11], [5]))
      (.ops [
        ⟨(some 13), none, .iaddr 8 (.t 9) (.t 11)⟩,
        ⟨(some 14), none, .load true 8 (.t 13)⟩,
        ⟨(some 5), none, .alloc [(.int .i64 0), (.int .i64 0), (.int .i64 0), (.int .i64 0), (.int .i64 0), (.int .i64 0), (.int .i64 0), (.bool false)]⟩,
        ⟨none, none, .store 8 (.t 5) (.t 14)⟩])
      (.seq (some ([5, 9, 10, 11], [5]))
       (.seq (some ([5, 9, 10, 11, 23], [5]))
        (.ops [
          ⟨(some 15), none, .load true 8 (.t 5)⟩,
          ⟨(some 16), none, .call (.f budgets_right_id) [(.t 15)]⟩,
          ⟨(some 17), none, .un .not (.t 16)⟩,
          ⟨(some 18), none, .mv (.t 17)⟩,
          ⟨(some 19), (some (18, false)), .faddr 0 (.t 5)⟩,
          ⟨(some 20), (some (18, false)), .load false 1 (.t 19)⟩,
          ⟨(some 21), (some (18, false)), .mv (.t 3)⟩,
          ⟨(some 22), (some (18, false)), .bin .leq (.t 20) (.t 21)⟩,
          ⟨(some 23), none, .pick (.t 18) (.c (.bool true)) (.t 22)⟩])
        (.cond (.t 23)
         (.seq none
          (.ops [
            ⟨(some 2), none, .mv (.c (.int .i64 180))⟩])
          .ret)
         .skip))
       (.ops [
         ⟨(some 24), none, .faddr 0 (.t 5)⟩,
         ⟨(some 25), none, .load false 1 (.t 24)⟩,
         ⟨(some 3), none, .mv (.t 25)⟩]))))
    (.ops [
      ⟨(some 26), none, .bin .add (.t 11) (.c (.int .i64 1))⟩,
      ⟨(some 11), none, .mv (.t 26)⟩]))))
/-- signatory/budgets.Check -/
def budgets_Check : FnIR := ⟨1, 27, [.t 2],
 (.seq (some ([0], []))
  (.ops [
    ⟨(some 2), none, .mv (.c (.int .i64 0))⟩])
  (.seq (some ([0], []))
   (.seq (some ([0, 8], []))
    (.ops [
      ⟨(some 6), none, .mv (.t 0)⟩,
      ⟨(some 7), none, .blen .slice (.t 6)⟩,
      ⟨(some 8), none, .bin .gtr (.t 7) (.c (.int .i64 4096))⟩])
    (.cond (.t 8)
     (.seq none
      (.ops [
        ⟨(some 2), none, .mv (.c (.int .i64 2))⟩])
      .ret)
     .skip))
   (.seq (some ([0, 3], [5]))
    (.ops [
      ⟨(some 3), none, .mv (.c (.int .i64 (-1)))⟩])
    (.seq (some ([], []))
     (.seq (some ([3, 9, 10, 11], [5]))
      (.ops [
        ⟨(some 9), none, .mv (.t 0)⟩,
        ⟨(some 10), none, .blen .slice (.t 9)⟩,
        ⟨(some 11), none, .mv (.c (.int .i64 0))⟩])
      (.block 0
       (.loop budgets_Check_l0)))
     (.seq none
      (.ops [
        ⟨(some 2), none, .mv (.c (.int .i64 0))⟩])
      .ret)))))⟩

/-- signatory/budgets.between -/
def budgets_between : FnIR := ⟨3, 11, [.t 6],
 (.seq (some ([2, 3, 4], [3, 4]))
  (.ops [
    ⟨(some 3), none, .box 1 (.t 0)⟩,
    ⟨(some 4), none, .box 1 (.t 1)⟩,
    ⟨(some 6), none, .mv (.c (.bool false))⟩])
  (.seq none
   (.ops [
     ⟨(some 7), none, .mv (.t 2)⟩,
     ⟨(some 8), none, .mkfn budgets_between_1_id [] [(.t 3), (.t 4)]⟩,
     ⟨(some 9), none, .call (.f slices_ContainsFunc_int_int_id) [(.t 7), (.t 8)]⟩,
     ⟨(some 10), none, .un .not (.t 9)⟩,
     ⟨(some 6), none, .mv (.t 10)⟩])
   .ret))⟩

def budgets_standing_l0 : IR :=
 (.seq (some ([0, 1, 2, 3, 8, 9, 18, 19, 20, 21], [11, 12, 16, 17, 92]))
  (.ops [
    ⟨(some 21), none, .bin .lss (.t 20) (.t 19)⟩])
  (.seq (some ([0, 1, 2, 3, 8, 9, 18, 19, 20], [11, 12, 16, 17, 92]))
   (.cond (.t 21)
    .skip
    (.exit 0))
   (.seq (some ([0, 1, 2, 3, 8, 9, 18, 19, 20], [11, 12, 16, 17, 92]))
    (.block 1
     (.seq (some ([0, 1, 2, 3, 8, 9, 11, 18, 19, 20], [11, 12, 16, 17, 92]))
      (.ops [
        ⟨(some 22), none, .iaddr 8 (.t 18) (.t 20)⟩,
        ⟨(some 23), none, .load true 8 (.t 22)⟩,
        ⟨(some 11), none, .alloc [(.int .i64 0), (.int .i64 0), (.int .i64 0), (.int .i64 0), (.int .i64 0), (.int .i64 0), (.int .i64 0), (.bool false)]⟩,
        ⟨none, none, .store 8 (.t 11) (.t 23)⟩])
      (.seq (some ([0, 1, 2, 3, 8, 9, 11, 18, 19, 20], [11, 12, 16, 17, 92]))
       (.seq (some ([0, 1, 2, 3, 8, 9, 11, 18, 19, 20, 44], [11, 12, 16, 17, 92]))
        (.ops [
          ⟨(some 24), none, .faddr 1 (.t 11)⟩,
          ⟨(some 25), none, .load false 1 (.t 24)⟩,
          ⟨(some 26), none, .mv (.t 2)⟩,
          ⟨(some 27), none, .bin .gtr (.t 25) (.t 26)⟩,
          ⟨(some 28), none, .mv (.t 27)⟩,
          ⟨(some 29), (some (28, false)), .faddr 2 (.t 11)⟩,
          ⟨(some 30), (some (28, false)), .load false 1 (.t 29)⟩,
          ⟨(some 31), (some (28, false)), .mv (.t 3)⟩,
          ⟨(some 32), (some (28, false)), .bin .gtr (.t 30) (.t 31)⟩,
          ⟨(some 33), none, .pick (.t 28) (.c (.bool true)) (.t 32)⟩,
          ⟨(some 34), none, .mv (.t 33)⟩,
          ⟨(some 35), (some (34, false)), .faddr 3 (.t 11)⟩,
          ⟨(some 36), (some (34, false)), .load false 1 (.t 35)⟩,
          ⟨(some 37), (some (34, false)), .bin .neq (.t 36) (.c (.int .i64 (-1)))⟩,
          ⟨(some 38), (some (34, false)), .mv (.t 37)⟩,
          ⟨(some 39), (some (38, true)), .faddr 3 (.t 11)⟩,
          ⟨(some 40), (some (38, true)), .load false 1 (.t 39)⟩,
          ⟨(some 41), (some (38, true)), .mv (.t 1)⟩,
          ⟨(some 42), (some (38, true)), .bin .neq (.t 40) (.t 41)⟩,
          ⟨(some 43), (some (34, false)), .pick (.t 38) (.t 42) (.c (.bool false))⟩,
          ⟨(some 44), none, .pick (.t 34) (.c (.bool true)) (.t 43)⟩])
        (.cond (.t 44)
         (.exit 1)
         .skip))
       (.seq (some ([0, 1, 2, 3, 8, 9, 11, 12, 18, 19, 20], [11, 12, 16, 17, 92]))
        (.ops [
          ⟨(some 45), none, .faddr 3 (.t 11)⟩,
          ⟨(some 46), none, .load false 1 (.t 45)⟩,
          ⟨(some 47), none, .faddr 4 (.t 11)⟩,
          ⟨(some 48), none, .load false 1 (.t 47)⟩,
          ⟨(some 49), none, .build [(.int .i64 0), (.int .i64 0)] [(0, 1, (.t 46)), (1, 1, (.t 48))]⟩,
          ⟨(some 12), none, .alloc [(.int .i64 0), (.int .i64 0)]⟩,
          ⟨none, none, .store 2 (.t 12) (.t 49)⟩])
        (.seq (some ([0, 1, 2, 3, 8, 9, 11, 12, 13, 14, 18, 19, 20], [11, 12, 13, 16, 17, 92]))
         (.ops [
           ⟨(some 51), none, .mv (.t 9)⟩,
           ⟨(some 52), none, .load true 2 (.t 12)⟩,
           ⟨(some 53), none, .lookup (.st [.i, .i]) (.agg [(.int .i64 0), (.int .i64 0), (.int .i64 0), (.int .i64 0), (.int .i64 0), (.int .i64 0), (.int .i64 0), (.bool false)]) true (.t 51) (.t 52)⟩,
           ⟨(some 50), none, .mv (.t 53)⟩,
           ⟨(some 54), none, .ext (.t 50) 0⟩,
           ⟨(some 55), none, .ext (.t 50) 1⟩,
           ⟨(some 13), none, .alloc [(.int .i64 0), (.int .i64 0), (.int .i64 0), (.int .i64 0), (.int .i64 0), (.int .i64 0), (.int .i64 0), (.bool false)]⟩,
           ⟨none, none, .store 8 (.t 13) (.t 54)⟩,
           ⟨(some 14), none, .mv (.t 55)⟩])
         (.seq (some ([0, 1, 2, 3, 8, 9, 11, 12, 18, 19, 20, 64], [11, 12, 13, 16, 17, 92]))
          (.ops [
            ⟨(some 56), none, .mv (.t 14)⟩,
            ⟨(some 57), none, .un .not (.t 56)⟩,
            ⟨(some 58), none, .mv (.t 57)⟩,
            ⟨(some 59), (some (58, false)), .faddr 1 (.t 13)⟩,
            ⟨(some 60), (some (58, false)), .load false 1 (.t 59)⟩,
            ⟨(some 61), (some (58, false)), .faddr 1 (.t 11)⟩,
            ⟨(some 62), (some (58, false)), .load false 1 (.t 61)⟩,
            ⟨(some 63), (some (58, false)), .bin .leq (.t 60) (.t 62)⟩,
            ⟨(some 64), none, .pick (.t 58) (.c (.bool true)) (.t 63)⟩])
          (.cond (.t 64)
           (.ops [
             ⟨(some 65), none, .mv (.t 9)⟩,
             ⟨(some 66), none, .load true 2 (.t 12)⟩,
             ⟨(some 67), none, .load true 8 (.t 11)⟩,
             ⟨none, none, .mapset (.st [.i, .i]) (.t 65) (.t 66) (.t 67)⟩])
           .skip)))))))
    (.ops [
      ⟨(some 68), none, .bin .add (.t 20) (.c (.int .i64 1))⟩,
      ⟨(some 20), none, .mv (.t 68)⟩]))))
def budgets_standing_l1 : IR :=
 (.seq (some ([8, 9, 69, 70, 71, 72], [11, 12, 16, 17, 92]))
  (.ops [
    ⟨(some 72), none, .bin .lss (.t 71) (.t 70)⟩])
  (.seq (some ([8, 9, 69, 70, 71], [11, 12, 16, 17, 92]))
   (.cond (.t 72)
    .skip
    (.exit 2))
   (.seq (some ([8, 9, 69, 70, 71], [11, 12, 16, 17, 92]))
    (.block 3
     (.seq (some ([8, 9, 16, 69, 70, 71], [11, 12, 16, 17, 92]))
      (.ops [
        ⟨(some 73), none, .iaddr 8 (.t 69) (.t 71)⟩,
        ⟨(some 74), none, .load true 8 (.t 73)⟩,
        ⟨(some 16), none, .alloc [(.int .i64 0), (.int .i64 0), (.int .i64 0), (.int .i64 0), (.int .i64 0), (.int .i64 0), (.int .i64 0), (.bool false)]⟩,
        ⟨none, none, .store 8 (.t 16) (.t 74)⟩])
      (.seq (some ([8, 9, 16, 69, 70, 71, 88], [11, 12, 16, 17, 92]))
       (.ops [
         ⟨(some 75), none, .faddr 7 (.t 16)⟩,
         ⟨(some 76), none, .load false 1 (.t 75)⟩,
         ⟨(some 77), none, .un .not (.t 76)⟩,
         ⟨(some 78), none, .mv (.t 77)⟩,
         ⟨(some 79), (some (78, true)), .mv (.t 9)⟩,
         ⟨(some 80), (some (78, true)), .faddr 3 (.t 16)⟩,
         ⟨(some 81), (some (78, true)), .load false 1 (.t 80)⟩,
         ⟨(some 82), (some (78, true)), .faddr 4 (.t 16)⟩,
         ⟨(some 83), (some (78, true)), .load false 1 (.t 82)⟩,
         ⟨(some 84), (some (78, true)), .build [(.int .i64 0), (.int .i64 0)] [(0, 1, (.t 81)), (1, 1, (.t 83))]⟩,
         ⟨(some 85), (some (78, true)), .lookup (.st [.i, .i]) (.agg [(.int .i64 0), (.int .i64 0), (.int .i64 0), (.int .i64 0), (.int .i64 0), (.int .i64 0), (.int .i64 0), (.bool false)]) false (.t 79) (.t 84)⟩,
         ⟨(some 86), (some (78, true)), .load true 8 (.t 16)⟩,
         ⟨(some 87), (some (78, true)), .eqs false [.i, .i, .i, .i, .i, .i, .i, .b] (.t 85) (.t 86)⟩,
         ⟨(some 88), none, .pick (.t 78) (.t 87) (.c (.bool false))⟩])
       (.cond (.t 88)
        (.ops [
          ⟨(some 89), none, .mv (.t 8)⟩,
          ⟨(some 90), none, .load true 8 (.t 16)⟩,
          ⟨(some 91), none, .bslice false 8 true [(.int .i64 0), (.int .i64 0), (.int .i64 0), (.int .i64 0), (.int .i64 0), (.int .i64 0), (.int .i64 0), (.bool false)] 1 [(0, (.t 90))]⟩,
          ⟨(some 92), none, .append false 8 true 64 (.t 89) (.t 91)⟩,
          ⟨(some 8), none, .mv (.t 92)⟩])
        .skip))))
    (.ops [
      ⟨(some 93), none, .bin .add (.t 71) (.c (.int .i64 1))⟩,
      ⟨(some 71), none, .mv (.t 93)⟩]))))
/-- signatory/budgets.standing -/
def budgets_standing : FnIR := ⟨4, 95, [.t 8],
 (.seq (some ([0, 1, 2, 3, 8], [16, 92]))
  (.ops [
    ⟨(some 8), none, .mv (.c (.list [] true))⟩])
  (.seq (some ([0, 1, 2, 3, 8, 9], [11, 12, 16, 17, 92]))
   (.ops [
     ⟨(some 17), none, .mkmap⟩,
     ⟨(some 9), none, .mv (.t 17)⟩])
   (.seq (some ([0, 8, 9], [11, 12, 16, 17, 92]))
    (.seq (some ([0, 1, 2, 3, 8, 9, 18, 19, 20], [11, 12, 16, 17, 92]))
     (.ops [
       ⟨(some 18), none, .mv (.t 0)⟩,
       ⟨(some 19), none, .blen .slice (.t 18)⟩,
       ⟨(some 20), none, .mv (.c (.int .i64 0))⟩])
     (.block 0
      (.loop budgets_standing_l0)))
    (.seq (some ([8], [16, 92]))
     (.seq (some ([8, 9, 69, 70, 71], [11, 12, 16, 17, 92]))
      (.ops [
        ⟨(some 69), none, .mv (.t 0)⟩,
        ⟨(some 70), none, .blen .slice (.t 69)⟩,
        ⟨(some 71), none, .mv (.c (.int .i64 0))⟩])
      (.block 2
       (.loop budgets_standing_l1)))
     (.seq none
      (.ops [
        ⟨(some 94), none, .mv (.t 8)⟩,
        ⟨(some 8), none, .mv (.t 94)⟩])
      .ret)))))⟩

def budgets_uses_l0 : IR :=
 (.seq (some ([3, 7, 8, 9, 10], [5, 6]))
  (.ops [
    ⟨(some 10), none, .bin .lss (.t 9) (.t 8)⟩])
  (.seq (some ([3, 7, 8, 9], [5, 6]))
   (.cond (.t 10)
    .skip
    (.exit 0))
   (.seq (some ([3, 7, 8, 9], [5, 6]))
    (.block 1
     (.seq (some ([3, 5, 7, 8, 9], [5, 6]))
      (.ops [
        ⟨(some 11), none, .iaddr 5 (.t 7) (.t 9)⟩,
        ⟨(some 12), none, .load true 5 (.t 11)⟩,
        ⟨(some 5), none, .alloc [(.int .i64 0), (.int .i64 0), (.int .i64 0), (.int .i64 0), (.int .i64 0)]⟩,
        ⟨none, none, .store 5 (.t 5) (.t 12)⟩])
      (.seq (some ([3, 5, 7, 8, 9], [5, 6]))
       (.seq (some ([3, 5, 7, 8, 9, 46], [5, 6]))
        (.ops [
          ⟨(some 13), none, .mv (.t 3)⟩,
          ⟨(some 14), none, .faddr 0 (.t 5)⟩,
          ⟨(some 15), none, .load false 1 (.t 14)⟩,
          ⟨(some 16), none, .lookup (.c .i) (.bool false) false (.t 13) (.t 15)⟩,
          ⟨(some 17), none, .mv (.t 16)⟩,
          ⟨(some 18), (some (17, false)), .faddr 0 (.t 5)⟩,
          ⟨(some 19), (some (17, false)), .load false 1 (.t 18)⟩,
          ⟨(some 20), (some (17, false)), .bslice false 1 false [(.int .i64 0)] 1 [(0, (.t 19))]⟩,
          ⟨(some 21), (some (17, false)), .call (.f budgets_between_id) [(.c (.int .i64 0)), (.c (.int .i64 4095)), (.t 20)]⟩,
          ⟨(some 22), (some (17, false)), .un .not (.t 21)⟩,
          ⟨(some 23), none, .pick (.t 17) (.c (.bool true)) (.t 22)⟩,
          ⟨(some 24), none, .mv (.t 23)⟩,
          ⟨(some 25), (some (24, false)), .faddr 1 (.t 5)⟩,
          ⟨(some 26), (some (24, false)), .load false 1 (.t 25)⟩,
          ⟨(some 27), (some (24, false)), .bslice false 1 false [(.int .i64 0)] 1 [(0, (.t 26))]⟩,
          ⟨(some 28), (some (24, false)), .call (.f budgets_between_id) [(.c (.int .i64 0)), (.c (.int .i64 15)), (.t 27)]⟩,
          ⟨(some 29), (some (24, false)), .un .not (.t 28)⟩,
          ⟨(some 30), none, .pick (.t 24) (.c (.bool true)) (.t 29)⟩,
          ⟨(some 31), none, .mv (.t 30)⟩,
          ⟨(some 32), (some (31, false)), .faddr 2 (.t 5)⟩,
          ⟨(some 33), (some (31, false)), .load false 1 (.t 32)⟩,
          ⟨(some 34), (some (31, false)), .bslice false 1 false [(.int .i64 0)] 1 [(0, (.t 33))]⟩,
          ⟨(some 35), (some (31, false)), .call (.f budgets_between_id) [(.c (.int .i64 0)), (.c (.int .i64 1099511627776)), (.t 34)]⟩,
          ⟨(some 36), (some (31, false)), .un .not (.t 35)⟩,
          ⟨(some 37), none, .pick (.t 31) (.c (.bool true)) (.t 36)⟩,
          ⟨(some 38), none, .mv (.t 37)⟩,
          ⟨(some 39), (some (38, false)), .faddr 3 (.t 5)⟩,
          ⟨(some 40), (some (38, false)), .load false 1 (.t 39)⟩,
          ⟨(some 41), (some (38, false)), .faddr 4 (.t 5)⟩,
          ⟨(some 42), (some (38, false)), .load false 1 (.t 41)⟩,
          ⟨(some 43), (some (38, false)), .bslice false 1 false [(.int .i64 0)] 2 [(0, (.t 40)), (1, (.t 42))]⟩,
          ⟨(some 44), (some (38, false)), .call (.f budgets_between_id) [(.c (.int .i64 0)), (.c (.int .i64 1099511627775)), (.t 43)]⟩,
          ⟨(some 45), (some (38, false)), .un .not (.t 44)⟩,
          ⟨(some 46), none, .pick (.t 38) (.c (.bool true)) (.t 45)⟩])
        (.cond (.t 46)
         (.seq none
          (.ops [
            ⟨(some 2), none, .mv (.c (.bool false))⟩])
          .ret)
         .skip))
       (.ops [
         ⟨(some 47), none, .mv (.t 3)⟩,
         ⟨(some 48), none, .faddr 0 (.t 5)⟩,
         ⟨(some 49), none, .load false 1 (.t 48)⟩,
         ⟨none, none, .mapset (.c .i) (.t 47) (.t 49) (.c (.bool true))⟩]))))
    (.ops [
      ⟨(some 50), none, .bin .add (.t 9) (.c (.int .i64 1))⟩,
      ⟨(some 9), none, .mv (.t 50)⟩]))))
/-- signatory/budgets.uses -/
def budgets_uses : FnIR := ⟨1, 51, [.t 2],
 (.seq (some ([0], []))
  (.ops [
    ⟨(some 2), none, .mv (.c (.bool false))⟩])
  (.seq (some ([0, 3], [5, 6]))
   (.ops [
     ⟨(some 6), none, .mkmap⟩,
     ⟨(some 3), none, .mv (.t 6)⟩])
   (.seq (some ([], []))
    (.seq (some ([3, 7, 8, 9], [5, 6]))
     (.ops [
       ⟨(some 7), none, .mv (.t 0)⟩,
       ⟨(some 8), none, .blen .slice (.t 7)⟩,
       ⟨(some 9), none, .mv (.c (.int .i64 0))⟩])
     (.block 0
      (.loop budgets_uses_l0)))
    (.seq none
     (.ops [
       ⟨(some 2), none, .mv (.c (.bool true))⟩])
     .ret))))⟩

/-- signatory/budgets.used -/
def budgets_used : FnIR := ⟨4, 10, [.t 8],
 (.seq (some ([4, 5, 6, 7], [4, 5, 6, 7]))
  (.ops [
    ⟨(some 4), none, .box 8 (.t 0)⟩,
    ⟨(some 5), none, .box 1 (.t 1)⟩,
    ⟨(some 6), none, .box 1 (.t 2)⟩,
    ⟨(some 7), none, .box 1 (.t 3)⟩,
    ⟨(some 8), none, .mv (.c .nilfn)⟩])
  (.seq none
   (.ops [
     ⟨(some 9), none, .mkfn budgets_used_1_id [] [(.t 5), (.t 7), (.t 4), (.t 6)]⟩,
     ⟨(some 8), none, .mv (.t 9)⟩])
   .ret))⟩

def ref18_Check_l0 : IR :=
 (.seq (some ([0, 3], []))
  (.seq (some ([0, 3, 10], []))
   (.ops [
     ⟨(some 7), none, .mv (.t 3)⟩,
     ⟨(some 8), none, .mv (.t 0)⟩,
     ⟨(some 9), none, .blen .slice (.t 8)⟩,
     ⟨(some 10), none, .bin .lss (.t 7) (.t 9)⟩])
   (.cond (.t 10)
    .skip
    (.exit 0)))
  (.seq (some ([0, 3], []))
   (.block 1
    (.seq (some ([0, 3, 36], []))
     (.ops [
       ⟨(some 13), none, .mv (.t 0)⟩,
       ⟨(some 14), none, .mv (.t 3)⟩,
       ⟨(some 15), none, .iaddr 8 (.t 13) (.t 14)⟩,
       ⟨(some 16), none, .load true 8 (.t 15)⟩,
       ⟨(some 17), none, .call (.f ref18_Right_id) [(.t 16)]⟩,
       ⟨(some 18), none, .un .not (.t 17)⟩,
       ⟨(some 19), none, .mv (.t 18)⟩,
       ⟨(some 20), (some (19, false)), .mv (.t 3)⟩,
       ⟨(some 21), (some (19, false)), .bin .gtr (.t 20) (.c (.int .i64 0))⟩,
       ⟨(some 22), (some (19, false)), .mv (.t 21)⟩,
       ⟨(some 23), (some (22, true)), .mv (.t 0)⟩,
       ⟨(some 24), (some (22, true)), .mv (.t 3)⟩,
       ⟨(some 25), (some (22, true)), .bin .sub (.t 24) (.c (.int .i64 1))⟩,
       ⟨(some 26), (some (22, true)), .iaddr 8 (.t 23) (.t 25)⟩,
       ⟨(some 27), (some (22, true)), .faddr 0 (.t 26)⟩,
       ⟨(some 28), (some (22, true)), .load false 1 (.t 27)⟩,
       ⟨(some 29), (some (22, true)), .mv (.t 0)⟩,
       ⟨(some 30), (some (22, true)), .mv (.t 3)⟩,
       ⟨(some 31), (some (22, true)), .iaddr 8 (.t 29) (.t 30)⟩,
       ⟨(some 32), (some (22, true)), .faddr 0 (.t 31)⟩,
       ⟨(some 33), (some (22, true)), .load false 1 (.t 32)⟩,
       ⟨(some 34), (some (22, true)), .bin .geq (.t 28) (.t 33)⟩,
       ⟨(some 35), (some (19, false)), .pick (.t 22) (.t 34) (.c (.bool false))⟩,
       ⟨(some 36), none, .pick (.t 19) (.c (.bool true)) (.t 35)⟩])
     (.cond (.t 36)
      (.seq none
       (.ops [
         ⟨(some 2), none, .mv (.c (.int .i64 180))⟩])
       .ret)
      .skip)))
   (.ops [
     ⟨(some 11), none, .mv (.t 3)⟩,
     ⟨(some 12), none, .bin .add (.t 11) (.c (.int .i64 1))⟩,
     ⟨(some 3), none, .mv (.t 12)⟩])))
/-- signatory/signatoryref18.Check -/
def ref18_Check : FnIR := ⟨1, 37, [.t 2],
 (.seq (some ([0], []))
  (.ops [
    ⟨(some 2), none, .mv (.c (.int .i64 0))⟩])
  (.seq (some ([0], []))
   (.seq (some ([0, 6], []))
    (.ops [
      ⟨(some 4), none, .mv (.t 0)⟩,
      ⟨(some 5), none, .blen .slice (.t 4)⟩,
      ⟨(some 6), none, .bin .gtr (.t 5) (.c (.int .i64 4096))⟩])
    (.cond (.t 6)
     (.seq none
      (.ops [
        ⟨(some 2), none, .mv (.c (.int .i64 2))⟩])
      .ret)
     .skip))
   (.seq (some ([], []))
    (.seq (some ([0, 3], []))
     (.ops [
       ⟨(some 3), none, .mv (.c (.int .i64 0))⟩])
     (.block 0
      (.loop ref18_Check_l0)))
    (.seq none
     (.ops [
       ⟨(some 2), none, .mv (.c (.int .i64 0))⟩])
     .ret))))⟩

def ref18_Uses_l0 : IR :=
 (.seq (some ([0, 3, 4], []))
  (.seq (some ([0, 3, 4, 56], []))
   (.ops [
     ⟨(some 54), none, .mv (.t 4)⟩,
     ⟨(some 55), none, .mv (.t 3)⟩,
     ⟨(some 56), none, .bin .lss (.t 54) (.t 55)⟩])
   (.cond (.t 56)
    .skip
    (.exit 2)))
  (.seq (some ([0, 3, 4], []))
   (.block 3
    (.seq (some ([0, 3, 4, 69], []))
     (.ops [
       ⟨(some 59), none, .mv (.t 0)⟩,
       ⟨(some 60), none, .mv (.t 4)⟩,
       ⟨(some 61), none, .iaddr 5 (.t 59) (.t 60)⟩,
       ⟨(some 62), none, .faddr 0 (.t 61)⟩,
       ⟨(some 63), none, .load false 1 (.t 62)⟩,
       ⟨(some 64), none, .mv (.t 0)⟩,
       ⟨(some 65), none, .mv (.t 3)⟩,
       ⟨(some 66), none, .iaddr 5 (.t 64) (.t 65)⟩,
       ⟨(some 67), none, .faddr 0 (.t 66)⟩,
       ⟨(some 68), none, .load false 1 (.t 67)⟩,
       ⟨(some 69), none, .bin .eql (.t 63) (.t 68)⟩])
     (.cond (.t 69)
      (.seq none
       (.ops [
         ⟨(some 2), none, .mv (.c (.bool false))⟩])
       .ret)
      .skip)))
   (.ops [
     ⟨(some 57), none, .mv (.t 4)⟩,
     ⟨(some 58), none, .bin .add (.t 57) (.c (.int .i64 1))⟩,
     ⟨(some 4), none, .mv (.t 58)⟩])))
def ref18_Uses_l1 : IR :=
 (.seq (some ([0, 3], []))
  (.seq (some ([0, 3, 8], []))
   (.ops [
     ⟨(some 5), none, .mv (.t 3)⟩,
     ⟨(some 6), none, .mv (.t 0)⟩,
     ⟨(some 7), none, .blen .slice (.t 6)⟩,
     ⟨(some 8), none, .bin .lss (.t 5) (.t 7)⟩])
   (.cond (.t 8)
    .skip
    (.exit 0)))
  (.seq (some ([0, 3], []))
   (.block 1
    (.seq (some ([0, 3], []))
     (.seq (some ([0, 3, 53], []))
      (.ops [
        ⟨(some 11), none, .mv (.t 0)⟩,
        ⟨(some 12), none, .mv (.t 3)⟩,
        ⟨(some 13), none, .iaddr 5 (.t 11) (.t 12)⟩,
        ⟨(some 14), none, .faddr 0 (.t 13)⟩,
        ⟨(some 15), none, .load false 1 (.t 14)⟩,
        ⟨(some 16), none, .call (.f ref18_within_id) [(.t 15), (.c (.int .i64 0)), (.c (.int .i64 4095))]⟩,
        ⟨(some 17), none, .un .not (.t 16)⟩,
        ⟨(some 18), none, .mv (.t 17)⟩,
        ⟨(some 19), (some (18, false)), .mv (.t 0)⟩,
        ⟨(some 20), (some (18, false)), .mv (.t 3)⟩,
        ⟨(some 21), (some (18, false)), .iaddr 5 (.t 19) (.t 20)⟩,
        ⟨(some 22), (some (18, false)), .faddr 1 (.t 21)⟩,
        ⟨(some 23), (some (18, false)), .load false 1 (.t 22)⟩,
        ⟨(some 24), (some (18, false)), .call (.f ref18_kind_id) [(.t 23)]⟩,
        ⟨(some 25), (some (18, false)), .un .not (.t 24)⟩,
        ⟨(some 26), none, .pick (.t 18) (.c (.bool true)) (.t 25)⟩,
        ⟨(some 27), none, .mv (.t 26)⟩,
        ⟨(some 28), (some (27, false)), .mv (.t 0)⟩,
        ⟨(some 29), (some (27, false)), .mv (.t 3)⟩,
        ⟨(some 30), (some (27, false)), .iaddr 5 (.t 28) (.t 29)⟩,
        ⟨(some 31), (some (27, false)), .faddr 2 (.t 30)⟩,
        ⟨(some 32), (some (27, false)), .load false 1 (.t 31)⟩,
        ⟨(some 33), (some (27, false)), .call (.f ref18_within_id) [(.t 32), (.c (.int .i64 0)), (.c (.int .i64 1099511627776))]⟩,
        ⟨(some 34), (some (27, false)), .un .not (.t 33)⟩,
        ⟨(some 35), none, .pick (.t 27) (.c (.bool true)) (.t 34)⟩,
        ⟨(some 36), none, .mv (.t 35)⟩,
        ⟨(some 37), (some (36, false)), .mv (.t 0)⟩,
        ⟨(some 38), (some (36, false)), .mv (.t 3)⟩,
        ⟨(some 39), (some (36, false)), .iaddr 5 (.t 37) (.t 38)⟩,
        ⟨(some 40), (some (36, false)), .faddr 3 (.t 39)⟩,
        ⟨(some 41), (some (36, false)), .load false 1 (.t 40)⟩,
        ⟨(some 42), (some (36, false)), .call (.f ref18_moment_id) [(.t 41)]⟩,
        ⟨(some 43), (some (36, false)), .un .not (.t 42)⟩,
        ⟨(some 44), none, .pick (.t 36) (.c (.bool true)) (.t 43)⟩,
        ⟨(some 45), none, .mv (.t 44)⟩,
        ⟨(some 46), (some (45, false)), .mv (.t 0)⟩,
        ⟨(some 47), (some (45, false)), .mv (.t 3)⟩,
        ⟨(some 48), (some (45, false)), .iaddr 5 (.t 46) (.t 47)⟩,
        ⟨(some 49), (some (45, false)), .faddr 4 (.t 48)⟩,
        ⟨(some 50), (some (45, false)), .load false 1 (.t 49)⟩,
        ⟨(some 51), (some (45, false)), .call (.f ref18_moment_id) [(.t 50)]⟩,
        ⟨(some 52), (some (45, false)), .un .not (.t 51)⟩,
        ⟨(some 53), none, .pick (.t 45) (.c (.bool true)) (.t 52)⟩])
      (.cond (.t 53)
       (.seq none
        (.ops [
          ⟨(some 2), none, .mv (.c (.bool false))⟩])
        .ret)
       .skip))
     (.seq (some ([0, 3, 4], []))
      (.ops [
        ⟨(some 4), none, .mv (.c (.int .i64 0))⟩])
      (.block 2
       (.loop ref18_Uses_l0)))))
   (.ops [
     ⟨(some 9), none, .mv (.t 3)⟩,
     ⟨(some 10), none, .bin .add (.t 9) (.c (.int .i64 1))⟩,
     ⟨(some 3), none, .mv (.t 10)⟩])))
/-- signatory/signatoryref18.Uses -/
def ref18_Uses : FnIR := ⟨1, 70, [.t 2],
 (.seq (some ([0], []))
  (.ops [
    ⟨(some 2), none, .mv (.c (.bool false))⟩])
  (.seq (some ([], []))
   (.seq (some ([0, 3], []))
    (.ops [
      ⟨(some 3), none, .mv (.c (.int .i64 0))⟩])
    (.block 0
     (.loop ref18_Uses_l1)))
   (.seq none
    (.ops [
      ⟨(some 2), none, .mv (.c (.bool true))⟩])
    .ret)))⟩

/-- slices.Collect[int] -/
def slices_Collect_int : FnIR := ⟨1, 5, [.t 2],
 (.seq (some ([0], []))
  (.ops [
    ⟨(some 2), none, .mv (.c (.list [] true))⟩])
  (.seq none
   (.ops [
     ⟨(some 3), none, .mv (.t 0)⟩,
     ⟨(some 4), none, .call (.f slices_AppendSeq_int_int_id) [(.c (.list [] true)), (.t 3)]⟩,
     ⟨(some 2), none, .mv (.t 4)⟩])
   .ret))⟩

/-- slices.Sort[[]int,int] -/
def slices_Sort_int_int : FnIR := ⟨1, 11, [],
 (.seq (some ([0, 2], []))
  (.ops [
    ⟨(some 3), none, .mv (.t 0)⟩,
    ⟨(some 4), none, .blen .slice (.t 3)⟩,
    ⟨(some 2), none, .mv (.t 4)⟩])
  (.ops [
    ⟨(some 5), none, .mv (.t 0)⟩,
    ⟨(some 6), none, .mv (.t 2)⟩,
    ⟨(some 7), none, .mv (.t 2)⟩,
    ⟨(some 8), none, .convi .u64 (.t 7)⟩,
    ⟨(some 9), none, .call (.f math_bits_Len_id) [(.t 8)]⟩,
    ⟨(some 10), none, .call (.f slices_pdqsortOrdered_int_id) [(.t 5), (.c (.int .i64 0)), (.t 6), (.t 9)]⟩]))⟩

def maps_Keys_map_int_bool_int_bool_1_l0 : IR :=
 (.seq (some ([0, 5, 7], [5]))
  (.ops [
    ⟨(some 6), none, .next (.t 5)⟩,
    ⟨(some 7), none, .ext (.t 6) 0⟩])
  (.seq (some ([0, 5], [5]))
   (.cond (.t 7)
    .skip
    (.exit 0))
   (.block 1
    (.seq (some ([0, 3, 5], [5]))
     (.ops [
       ⟨(some 8), none, .entry (.t 5)⟩,
       ⟨(some 9), none, .ext (.t 8) 0⟩,
       ⟨(some 3), none, .mv (.t 9)⟩])
     (.seq (some ([0, 5, 13], [5]))
      (.ops [
        ⟨(some 10), none, .mv (.t 0)⟩,
        ⟨(some 11), none, .mv (.t 3)⟩,
        ⟨(some 12), none, .call (.t 10) [(.t 11)]⟩,
        ⟨(some 13), none, .un .not (.t 12)⟩])
      (.cond (.t 13)
       .ret
       .skip))))))
/-- maps.Keys[map[int]bool,int,bool]$1 -/
def maps_Keys_map_int_bool_int_bool_1 : FnIR := ⟨2, 14, [],
 (.seq (some ([0, 5], [5]))
  (.ops [
    ⟨(some 4), none, .load false 1 (.t 1)⟩,
    ⟨(some 5), none, .range (.t 4)⟩])
  (.block 0
   (.loop maps_Keys_map_int_bool_int_bool_1_l0)))⟩

/-- signatory/signatoryref18.Standing -/
def ref18_Standing : FnIR := ⟨4, 34, [.t 8, .t 9],
 (.seq (some ([0, 1, 2, 3], []))
  (.ops [
    ⟨(some 8), none, .mv (.c (.list [] true))⟩,
    ⟨(some 9), none, .mv (.c (.int .i64 0))⟩])
  (.seq (some ([0, 1, 2, 3, 10], []))
   (.ops [
     ⟨(some 11), none, .mv (.t 0)⟩,
     ⟨(some 12), none, .call (.f ref18_Check_id) [(.t 11)]⟩,
     ⟨(some 10), none, .mv (.t 12)⟩])
   (.seq (some ([0, 1, 2, 3], []))
    (.seq (some ([0, 1, 2, 3, 10, 14], []))
     (.ops [
       ⟨(some 13), none, .mv (.t 10)⟩,
       ⟨(some 14), none, .bin .neq (.t 13) (.c (.int .i64 0))⟩])
     (.cond (.t 14)
      (.seq none
       (.ops [
         ⟨(some 15), none, .mv (.t 10)⟩,
         ⟨(some 8), none, .mv (.c (.list [] true))⟩,
         ⟨(some 9), none, .mv (.t 15)⟩])
       .ret)
      .skip))
    (.seq (some ([0, 1, 2, 3], []))
     (.seq (some ([0, 1, 2, 3, 28], []))
      (.ops [
        ⟨(some 16), none, .mv (.t 1)⟩,
        ⟨(some 17), none, .call (.f ref18_kind_id) [(.t 16)]⟩,
        ⟨(some 18), none, .un .not (.t 17)⟩,
        ⟨(some 19), none, .mv (.t 18)⟩,
        ⟨(some 20), (some (19, false)), .mv (.t 2)⟩,
        ⟨(some 21), (some (19, false)), .call (.f ref18_moment_id) [(.t 20)]⟩,
        ⟨(some 22), (some (19, false)), .un .not (.t 21)⟩,
        ⟨(some 23), none, .pick (.t 19) (.c (.bool true)) (.t 22)⟩,
        ⟨(some 24), none, .mv (.t 23)⟩,
        ⟨(some 25), (some (24, false)), .mv (.t 3)⟩,
        ⟨(some 26), (some (24, false)), .call (.f ref18_moment_id) [(.t 25)]⟩,
        ⟨(some 27), (some (24, false)), .un .not (.t 26)⟩,
        ⟨(some 28), none, .pick (.t 24) (.c (.bool true)) (.t 27)⟩])
      (.cond (.t 28)
       (.seq none
        (.ops [
          ⟨(some 8), none, .mv (.c (.list [] true))⟩,
          ⟨(some 9), none, .mv (.c (.int .i64 1))⟩])
        .ret)
       .skip))
     (.seq none
      (.ops [
        ⟨(some 29), none, .mv (.t 0)⟩,
        ⟨(some 30), none, .mv (.t 1)⟩,
        ⟨(some 31), none, .mv (.t 2)⟩,
        ⟨(some 32), none, .mv (.t 3)⟩,
        ⟨(some 33), none, .call (.f ref18_standing_id) [(.t 29), (.t 30), (.t 31), (.t 32)]⟩,
        ⟨(some 8), none, .mv (.t 33)⟩,
        ⟨(some 9), none, .mv (.c (.int .i64 0))⟩])
      .ret)))))⟩

def ref53_has_l0 : IR :=
 (.seq (some ([0, 1, 5], []))
  (.seq (some ([0, 1, 5, 9], []))
   (.ops [
     ⟨(some 6), none, .mv (.t 5)⟩,
     ⟨(some 7), none, .mv (.t 0)⟩,
     ⟨(some 8), none, .blen .slice (.t 7)⟩,
     ⟨(some 9), none, .bin .lss (.t 6) (.t 8)⟩])
   (.cond (.t 9)
    .skip
    (.exit 0)))
  (.seq (some ([0, 1, 5], []))
   (.block 1
    (.seq (some ([0, 1, 5, 18], []))
     (.ops [
       ⟨(some 12), none, .mv (.t 0)⟩,
       ⟨(some 13), none, .mv (.t 5)⟩,
       ⟨(some 14), none, .iaddr 8 (.t 12) (.t 13)⟩,
       ⟨(some 15), none, .faddr 0 (.t 14)⟩,
       ⟨(some 16), none, .load false 1 (.t 15)⟩,
       ⟨(some 17), none, .mv (.t 1)⟩,
       ⟨(some 18), none, .bin .eql (.t 16) (.t 17)⟩])
     (.cond (.t 18)
      (.seq none
       (.ops [
         ⟨(some 4), none, .mv (.c (.bool true))⟩])
       .ret)
      .skip)))
   (.ops [
     ⟨(some 10), none, .mv (.t 5)⟩,
     ⟨(some 11), none, .bin .add (.t 10) (.c (.int .i64 1))⟩,
     ⟨(some 5), none, .mv (.t 11)⟩])))
/-- signatory/signatoryref53.has -/
def ref53_has : FnIR := ⟨2, 19, [.t 4],
 (.seq (some ([0, 1], []))
  (.ops [
    ⟨(some 4), none, .mv (.c (.bool false))⟩])
  (.seq (some ([], []))
   (.seq (some ([0, 1, 5], []))
    (.ops [
      ⟨(some 5), none, .mv (.c (.int .i64 0))⟩])
    (.block 0
     (.loop ref53_has_l0)))
   (.seq none
    (.ops [
      ⟨(some 4), none, .mv (.c (.bool false))⟩])
    .ret)))⟩

def accounts_book_in_1_l0 : IR :=
 (.seq (some ([0, 1, 2, 8, 9, 10, 11], []))
  (.ops [
    ⟨(some 11), none, .bin .lss (.t 10) (.t 9)⟩])
  (.seq (some ([0, 1, 2, 8, 9, 10], []))
   (.cond (.t 11)
    .skip
    (.exit 0))
   (.seq (some ([0, 1, 2, 8, 9, 10], []))
    (.block 1
     (.seq (some ([0, 1, 2, 5, 8, 9, 10], [5]))
      (.ops [
        ⟨(some 12), none, .iaddr 5 (.t 8) (.t 10)⟩,
        ⟨(some 13), none, .load true 5 (.t 12)⟩,
        ⟨(some 5), none, .alloc [(.int .i64 0), (.int .i64 0), (.int .i64 0), (.int .i64 0), (.int .i64 0)]⟩,
        ⟨none, none, .store 5 (.t 5) (.t 13)⟩])
      (.seq (some ([0, 1, 2, 5, 6, 8, 9, 10], [5]))
       (.ops [
         ⟨(some 14), none, .faddr 4 (.t 5)⟩,
         ⟨(some 15), none, .load false 1 (.t 14)⟩,
         ⟨(some 16), none, .faddr 9 (.t 1)⟩,
         ⟨(some 17), none, .load false 1 (.t 16)⟩,
         ⟨(some 18), none, .bin .leq (.t 15) (.t 17)⟩,
         ⟨(some 19), none, .mv (.t 18)⟩,
         ⟨(some 20), (some (19, true)), .faddr 0 (.t 1)⟩,
         ⟨(some 21), (some (19, true)), .faddr 3 (.t 20)⟩,
         ⟨(some 22), (some (19, true)), .load false 1 (.t 21)⟩,
         ⟨(some 23), (some (19, true)), .bin .lss (.t 22) (.c (.int .i64 0))⟩,
         ⟨(some 24), (some (19, true)), .mv (.t 23)⟩,
         ⟨(some 25), (some (24, false)), .faddr 0 (.t 1)⟩,
         ⟨(some 26), (some (24, false)), .faddr 3 (.t 25)⟩,
         ⟨(some 27), (some (24, false)), .load false 1 (.t 26)⟩,
         ⟨(some 28), (some (24, false)), .faddr 1 (.t 5)⟩,
         ⟨(some 29), (some (24, false)), .load false 1 (.t 28)⟩,
         ⟨(some 30), (some (24, false)), .bin .eql (.t 27) (.t 29)⟩,
         ⟨(some 31), (some (19, true)), .pick (.t 24) (.c (.bool true)) (.t 30)⟩,
         ⟨(some 32), none, .pick (.t 19) (.t 31) (.c (.bool false))⟩,
         ⟨(some 33), none, .mv (.t 32)⟩,
         ⟨(some 34), (some (33, true)), .faddr 3 (.t 5)⟩,
         ⟨(some 35), (some (33, true)), .load false 1 (.t 34)⟩,
         ⟨(some 36), (some (33, true)), .faddr 0 (.t 1)⟩,
         ⟨(some 37), (some (33, true)), .faddr 4 (.t 36)⟩,
         ⟨(some 38), (some (33, true)), .load false 1 (.t 37)⟩,
         ⟨(some 39), (some (33, true)), .bin .quo (.t 35) (.t 38)⟩,
         ⟨(some 40), (some (33, true)), .load false 1 (.t 2)⟩,
         ⟨(some 41), (some (33, true)), .bin .eql (.t 39) (.t 40)⟩,
         ⟨(some 42), none, .pick (.t 33) (.t 41) (.c (.bool false))⟩,
         ⟨(some 6), none, .mv (.t 42)⟩])
       (.seq (some ([0, 1, 2, 8, 9, 10, 49], [5]))
        (.ops [
          ⟨(some 43), none, .mv (.t 6)⟩,
          ⟨(some 44), none, .mv (.t 43)⟩,
          ⟨(some 45), (some (44, true)), .mv (.t 0)⟩,
          ⟨(some 46), (some (44, true)), .load true 5 (.t 5)⟩,
          ⟨(some 47), (some (44, true)), .call (.t 45) [(.t 46)]⟩,
          ⟨(some 48), (some (44, true)), .un .not (.t 47)⟩,
          ⟨(some 49), none, .pick (.t 44) (.t 48) (.c (.bool false))⟩])
        (.cond (.t 49)
         .ret
         .skip)))))
    (.ops [
      ⟨(some 50), none, .bin .add (.t 10) (.c (.int .i64 1))⟩,
      ⟨(some 10), none, .mv (.t 50)⟩]))))
/-- (signatory/accounts.book).in$1 -/
def accounts_book_in_1 : FnIR := ⟨3, 51, [],
 (.seq (some ([0, 1, 2, 8, 9, 10], []))
  (.ops [
    ⟨(some 7), none, .faddr 8 (.t 1)⟩,
    ⟨(some 8), none, .load false 1 (.t 7)⟩,
    ⟨(some 9), none, .blen .slice (.t 8)⟩,
    ⟨(some 10), none, .mv (.c (.int .i64 0))⟩])
  (.block 0
   (.loop accounts_book_in_1_l0)))⟩

def maps_Keys_map_int_accounts_sum_int_accounts_sum_1_l0 : IR :=
 (.seq (some ([0, 5, 7], [5]))
  (.ops [
    ⟨(some 6), none, .next (.t 5)⟩,
    ⟨(some 7), none, .ext (.t 6) 0⟩])
  (.seq (some ([0, 5], [5]))
   (.cond (.t 7)
    .skip
    (.exit 0))
   (.block 1
    (.seq (some ([0, 3, 5], [5]))
     (.ops [
       ⟨(some 8), none, .entry (.t 5)⟩,
       ⟨(some 9), none, .ext (.t 8) 0⟩,
       ⟨(some 3), none, .mv (.t 9)⟩])
     (.seq (some ([0, 5, 13], [5]))
      (.ops [
        ⟨(some 10), none, .mv (.t 0)⟩,
        ⟨(some 11), none, .mv (.t 3)⟩,
        ⟨(some 12), none, .call (.t 10) [(.t 11)]⟩,
        ⟨(some 13), none, .un .not (.t 12)⟩])
      (.cond (.t 13)
       .ret
       .skip))))))
/-- maps.Keys[map[int]signatory/accounts.sum,int,signatory/accounts.sum]$1 -/
def maps_Keys_map_int_accounts_sum_int_accounts_sum_1 : FnIR := ⟨2, 14, [],
 (.seq (some ([0, 5], [5]))
  (.ops [
    ⟨(some 4), none, .load false 1 (.t 1)⟩,
    ⟨(some 5), none, .range (.t 4)⟩])
  (.block 0
   (.loop maps_Keys_map_int_accounts_sum_int_accounts_sum_1_l0)))⟩

/-- signatory/budgets.right -/
def budgets_right : FnIR := ⟨1, 45, [.t 2],
 (.seq (some ([1], [1]))
  (.ops [
    ⟨(some 1), none, .box 8 (.t 0)⟩,
    ⟨(some 2), none, .mv (.c (.bool false))⟩])
  (.seq (some ([1, 3, 4], [1]))
   (.ops [
     ⟨(some 3), none, .mv (.c (.int .i64 1048576))⟩,
     ⟨(some 4), none, .mv (.c (.int .i64 1099511627776))⟩])
   (.seq (some ([1, 3, 4], [1]))
    (.seq (some ([1, 3, 4, 6], [1]))
     (.ops [
       ⟨(some 5), none, .faddr 7 (.t 1)⟩,
       ⟨(some 6), none, .load false 1 (.t 5)⟩])
     (.cond (.t 6)
      (.ops [
        ⟨(some 3), none, .mv (.c (.int .i64 0))⟩,
        ⟨(some 4), none, .mv (.c (.int .i64 0))⟩])
      .skip))
    (.seq none
     (.ops [
       ⟨(some 7), none, .faddr 0 (.t 1)⟩,
       ⟨(some 8), none, .load false 1 (.t 7)⟩,
       ⟨(some 9), none, .bslice false 1 false [(.int .i64 0)] 1 [(0, (.t 8))]⟩,
       ⟨(some 10), none, .call (.f budgets_between_id) [(.c (.int .i64 0)), (.c (.int .i64 1048576)), (.t 9)]⟩,
       ⟨(some 11), none, .mv (.t 10)⟩,
       ⟨(some 12), (some (11, true)), .faddr 1 (.t 1)⟩,
       ⟨(some 13), (some (11, true)), .load false 1 (.t 12)⟩,
       ⟨(some 14), (some (11, true)), .faddr 2 (.t 1)⟩,
       ⟨(some 15), (some (11, true)), .load false 1 (.t 14)⟩,
       ⟨(some 16), (some (11, true)), .bslice false 1 false [(.int .i64 0)] 2 [(0, (.t 13)), (1, (.t 15))]⟩,
       ⟨(some 17), (some (11, true)), .call (.f budgets_between_id) [(.c (.int .i64 0)), (.c (.int .i64 1099511627775)), (.t 16)]⟩,
       ⟨(some 18), none, .pick (.t 11) (.t 17) (.c (.bool false))⟩,
       ⟨(some 19), none, .mv (.t 18)⟩,
       ⟨(some 20), (some (19, true)), .faddr 3 (.t 1)⟩,
       ⟨(some 21), (some (19, true)), .load false 1 (.t 20)⟩,
       ⟨(some 22), (some (19, true)), .bslice false 1 false [(.int .i64 0)] 1 [(0, (.t 21))]⟩,
       ⟨(some 23), (some (19, true)), .call (.f budgets_between_id) [(.c (.int .i64 (-1))), (.c (.int .i64 15)), (.t 22)]⟩,
       ⟨(some 24), none, .pick (.t 19) (.t 23) (.c (.bool false))⟩,
       ⟨(some 25), none, .mv (.t 24)⟩,
       ⟨(some 26), (some (25, true)), .faddr 4 (.t 1)⟩,
       ⟨(some 27), (some (25, true)), .load false 1 (.t 26)⟩,
       ⟨(some 28), (some (25, true)), .bslice false 1 false [(.int .i64 0)] 1 [(0, (.t 27))]⟩,
       ⟨(some 29), (some (25, true)), .call (.f budgets_between_id) [(.c (.int .i64 1)), (.c (.int .i64 1099511627776)), (.t 28)]⟩,
       ⟨(some 30), none, .pick (.t 25) (.t 29) (.c (.bool false))⟩,
       ⟨(some 31), none, .mv (.t 30)⟩,
       ⟨(some 32), (some (31, true)), .mv (.t 3)⟩,
       ⟨(some 33), (some (31, true)), .faddr 5 (.t 1)⟩,
       ⟨(some 34), (some (31, true)), .load false 1 (.t 33)⟩,
       ⟨(some 35), (some (31, true)), .bslice false 1 false [(.int .i64 0)] 1 [(0, (.t 34))]⟩,
       ⟨(some 36), (some (31, true)), .call (.f budgets_between_id) [(.c (.int .i64 0)), (.t 32), (.t 35)]⟩,
       ⟨(some 37), none, .pick (.t 31) (.t 36) (.c (.bool false))⟩,
       ⟨(some 38), none, .mv (.t 37)⟩,
       ⟨(some 39), (some (38, true)), .mv (.t 4)⟩,
       ⟨(some 40), (some (38, true)), .faddr 6 (.t 1)⟩,
       ⟨(some 41), (some (38, true)), .load false 1 (.t 40)⟩,
       ⟨(some 42), (some (38, true)), .bslice false 1 false [(.int .i64 0)] 1 [(0, (.t 41))]⟩,
       ⟨(some 43), (some (38, true)), .call (.f budgets_between_id) [(.c (.int .i64 0)), (.t 39), (.t 42)]⟩,
       ⟨(some 44), none, .pick (.t 38) (.t 43) (.c (.bool false))⟩,
       ⟨(some 2), none, .mv (.t 44)⟩])
     .ret))))⟩

/-- slices.ContainsFunc[[]int,int] -/
def slices_ContainsFunc_int_int : FnIR := ⟨2, 9, [.t 4],
 (.seq (some ([0, 1], []))
  (.ops [
    ⟨(some 4), none, .mv (.c (.bool false))⟩])
  (.seq none
   (.ops [
     ⟨(some 5), none, .mv (.t 0)⟩,
     ⟨(some 6), none, .mv (.t 1)⟩,
     ⟨(some 7), none, .call (.f slices_IndexFunc_int_int_id) [(.t 5), (.t 6)]⟩,
     ⟨(some 8), none, .bin .geq (.t 7) (.c (.int .i64 0))⟩,
     ⟨(some 4), none, .mv (.t 8)⟩])
   .ret))⟩

/-- signatory/budgets.between$1 -/
def budgets_between_1 : FnIR := ⟨3, 13, [.t 4],
 (.seq (some ([0, 1, 2], []))
  (.ops [
    ⟨(some 4), none, .mv (.c (.bool false))⟩])
  (.seq none
   (.ops [
     ⟨(some 5), none, .mv (.t 0)⟩,
     ⟨(some 6), none, .load false 1 (.t 1)⟩,
     ⟨(some 7), none, .bin .lss (.t 5) (.t 6)⟩,
     ⟨(some 8), none, .mv (.t 7)⟩,
     ⟨(some 9), (some (8, false)), .mv (.t 0)⟩,
     ⟨(some 10), (some (8, false)), .load false 1 (.t 2)⟩,
     ⟨(some 11), (some (8, false)), .bin .gtr (.t 9) (.t 10)⟩,
     ⟨(some 12), none, .pick (.t 8) (.c (.bool true)) (.t 11)⟩,
     ⟨(some 4), none, .mv (.t 12)⟩])
   .ret))⟩

def budgets_used_1_l0 : IR :=
 (.seq (some ([0, 2, 3, 4, 8, 9, 10, 11], []))
  (.ops [
    ⟨(some 11), none, .bin .lss (.t 10) (.t 9)⟩])
  (.seq (some ([0, 2, 3, 4, 8, 9, 10], []))
   (.cond (.t 11)
    .skip
    (.exit 0))
   (.seq (some ([0, 2, 3, 4, 8, 9, 10], []))
    (.block 1
     (.seq (some ([0, 2, 3, 4, 7, 8, 9, 10], [7]))
      (.ops [
        ⟨(some 12), none, .iaddr 5 (.t 8) (.t 10)⟩,
        ⟨(some 13), none, .load true 5 (.t 12)⟩,
        ⟨(some 7), none, .alloc [(.int .i64 0), (.int .i64 0), (.int .i64 0), (.int .i64 0), (.int .i64 0)]⟩,
        ⟨none, none, .store 5 (.t 7) (.t 13)⟩])
      (.seq (some ([0, 2, 3, 4, 8, 9, 10, 48], [7]))
       (.ops [
         ⟨(some 14), none, .faddr 4 (.t 7)⟩,
         ⟨(some 15), none, .load false 1 (.t 14)⟩,
         ⟨(some 16), none, .load false 1 (.t 2)⟩,
         ⟨(some 17), none, .bin .leq (.t 15) (.t 16)⟩,
         ⟨(some 18), none, .mv (.t 17)⟩,
         ⟨(some 19), (some (18, true)), .faddr 3 (.t 3)⟩,
         ⟨(some 20), (some (18, true)), .load false 1 (.t 19)⟩,
         ⟨(some 21), (some (18, true)), .bin .eql (.t 20) (.c (.int .i64 (-1)))⟩,
         ⟨(some 22), (some (18, true)), .mv (.t 21)⟩,
         ⟨(some 23), (some (22, false)), .faddr 3 (.t 3)⟩,
         ⟨(some 24), (some (22, false)), .load false 1 (.t 23)⟩,
         ⟨(some 25), (some (22, false)), .faddr 1 (.t 7)⟩,
         ⟨(some 26), (some (22, false)), .load false 1 (.t 25)⟩,
         ⟨(some 27), (some (22, false)), .bin .eql (.t 24) (.t 26)⟩,
         ⟨(some 28), (some (18, true)), .pick (.t 22) (.c (.bool true)) (.t 27)⟩,
         ⟨(some 29), none, .pick (.t 18) (.t 28) (.c (.bool false))⟩,
         ⟨(some 30), none, .mv (.t 29)⟩,
         ⟨(some 31), (some (30, true)), .faddr 3 (.t 7)⟩,
         ⟨(some 32), (some (30, true)), .load false 1 (.t 31)⟩,
         ⟨(some 33), (some (30, true)), .faddr 4 (.t 3)⟩,
         ⟨(some 34), (some (30, true)), .load false 1 (.t 33)⟩,
         ⟨(some 35), (some (30, true)), .bin .quo (.t 32) (.t 34)⟩,
         ⟨(some 36), (some (30, true)), .load false 1 (.t 4)⟩,
         ⟨(some 37), (some (30, true)), .faddr 4 (.t 3)⟩,
         ⟨(some 38), (some (30, true)), .load false 1 (.t 37)⟩,
         ⟨(some 39), (some (30, true)), .bin .quo (.t 36) (.t 38)⟩,
         ⟨(some 40), (some (30, true)), .bin .eql (.t 35) (.t 39)⟩,
         ⟨(some 41), none, .pick (.t 30) (.t 40) (.c (.bool false))⟩,
         ⟨(some 42), none, .mv (.t 41)⟩,
         ⟨(some 43), (some (42, true)), .mv (.t 0)⟩,
         ⟨(some 44), (some (42, true)), .faddr 2 (.t 7)⟩,
         ⟨(some 45), (some (42, true)), .load false 1 (.t 44)⟩,
         ⟨(some 46), (some (42, true)), .call (.t 43) [(.t 45)]⟩,
         ⟨(some 47), (some (42, true)), .un .not (.t 46)⟩,
         ⟨(some 48), none, .pick (.t 42) (.t 47) (.c (.bool false))⟩])
       (.cond (.t 48)
        .ret
        .skip))))
    (.ops [
      ⟨(some 49), none, .bin .add (.t 10) (.c (.int .i64 1))⟩,
      ⟨(some 10), none, .mv (.t 49)⟩]))))
/-- signatory/budgets.used$1 -/
def budgets_used_1 : FnIR := ⟨5, 50, [],
 (.seq (some ([0, 2, 3, 4, 8, 9, 10], []))
  (.ops [
    ⟨(some 8), none, .load false 1 (.t 1)⟩,
    ⟨(some 9), none, .blen .slice (.t 8)⟩,
    ⟨(some 10), none, .mv (.c (.int .i64 0))⟩])
  (.block 0
   (.loop budgets_used_1_l0)))⟩

/-- signatory/signatoryref18.Right -/
def ref18_Right : FnIR := ⟨1, 49, [.t 2],
 (.seq (some ([1], [1]))
  (.ops [
    ⟨(some 1), none, .box 8 (.t 0)⟩,
    ⟨(some 2), none, .mv (.c (.bool false))⟩])
  (.seq (some ([1], [1]))
   (.seq (some ([1, 30], [1]))
    (.ops [
      ⟨(some 3), none, .faddr 0 (.t 1)⟩,
      ⟨(some 4), none, .load false 1 (.t 3)⟩,
      ⟨(some 5), none, .call (.f ref18_within_id) [(.t 4), (.c (.int .i64 0)), (.c (.int .i64 1048576))]⟩,
      ⟨(some 6), none, .un .not (.t 5)⟩,
      ⟨(some 7), none, .mv (.t 6)⟩,
      ⟨(some 8), (some (7, false)), .faddr 1 (.t 1)⟩,
      ⟨(some 9), (some (7, false)), .load false 1 (.t 8)⟩,
      ⟨(some 10), (some (7, false)), .call (.f ref18_moment_id) [(.t 9)]⟩,
      ⟨(some 11), (some (7, false)), .un .not (.t 10)⟩,
      ⟨(some 12), none, .pick (.t 7) (.c (.bool true)) (.t 11)⟩,
      ⟨(some 13), none, .mv (.t 12)⟩,
      ⟨(some 14), (some (13, false)), .faddr 2 (.t 1)⟩,
      ⟨(some 15), (some (13, false)), .load false 1 (.t 14)⟩,
      ⟨(some 16), (some (13, false)), .call (.f ref18_moment_id) [(.t 15)]⟩,
      ⟨(some 17), (some (13, false)), .un .not (.t 16)⟩,
      ⟨(some 18), none, .pick (.t 13) (.c (.bool true)) (.t 17)⟩,
      ⟨(some 19), none, .mv (.t 18)⟩,
      ⟨(some 20), (some (19, false)), .faddr 3 (.t 1)⟩,
      ⟨(some 21), (some (19, false)), .load false 1 (.t 20)⟩,
      ⟨(some 22), (some (19, false)), .call (.f ref18_within_id) [(.t 21), (.c (.int .i64 (-1))), (.c (.int .i64 15))]⟩,
      ⟨(some 23), (some (19, false)), .un .not (.t 22)⟩,
      ⟨(some 24), none, .pick (.t 19) (.c (.bool true)) (.t 23)⟩,
      ⟨(some 25), none, .mv (.t 24)⟩,
      ⟨(some 26), (some (25, false)), .faddr 4 (.t 1)⟩,
      ⟨(some 27), (some (25, false)), .load false 1 (.t 26)⟩,
      ⟨(some 28), (some (25, false)), .call (.f ref18_within_id) [(.t 27), (.c (.int .i64 1)), (.c (.int .i64 1099511627776))]⟩,
      ⟨(some 29), (some (25, false)), .un .not (.t 28)⟩,
      ⟨(some 30), none, .pick (.t 25) (.c (.bool true)) (.t 29)⟩])
    (.cond (.t 30)
     (.seq none
      (.ops [
        ⟨(some 2), none, .mv (.c (.bool false))⟩])
      .ret)
     .skip))
   (.seq (some ([1], [1]))
    (.seq (some ([1, 32], [1]))
     (.ops [
       ⟨(some 31), none, .faddr 7 (.t 1)⟩,
       ⟨(some 32), none, .load false 1 (.t 31)⟩])
     (.cond (.t 32)
      (.seq none
       (.ops [
         ⟨(some 33), none, .faddr 5 (.t 1)⟩,
         ⟨(some 34), none, .load false 1 (.t 33)⟩,
         ⟨(some 35), none, .bin .eql (.t 34) (.c (.int .i64 0))⟩,
         ⟨(some 36), none, .mv (.t 35)⟩,
         ⟨(some 37), (some (36, true)), .faddr 6 (.t 1)⟩,
         ⟨(some 38), (some (36, true)), .load false 1 (.t 37)⟩,
         ⟨(some 39), (some (36, true)), .bin .eql (.t 38) (.c (.int .i64 0))⟩,
         ⟨(some 40), none, .pick (.t 36) (.t 39) (.c (.bool false))⟩,
         ⟨(some 2), none, .mv (.t 40)⟩])
       .ret)
      .skip))
    (.seq none
     (.ops [
       ⟨(some 41), none, .faddr 5 (.t 1)⟩,
       ⟨(some 42), none, .load false 1 (.t 41)⟩,
       ⟨(some 43), none, .call (.f ref18_within_id) [(.t 42), (.c (.int .i64 0)), (.c (.int .i64 1048576))]⟩,
       ⟨(some 44), none, .mv (.t 43)⟩,
       ⟨(some 45), (some (44, true)), .faddr 6 (.t 1)⟩,
       ⟨(some 46), (some (44, true)), .load false 1 (.t 45)⟩,
       ⟨(some 47), (some (44, true)), .call (.f ref18_within_id) [(.t 46), (.c (.int .i64 0)), (.c (.int .i64 1099511627776))]⟩,
       ⟨(some 48), none, .pick (.t 44) (.t 47) (.c (.bool false))⟩,
       ⟨(some 2), none, .mv (.t 48)⟩])
     .ret))))⟩

/-- signatory/signatoryref18.within -/
def ref18_within : FnIR := ⟨3, 15, [.t 6],
 (.seq (some ([0, 1, 2], []))
  (.ops [
    ⟨(some 6), none, .mv (.c (.bool false))⟩])
  (.seq none
   (.ops [
     ⟨(some 7), none, .mv (.t 0)⟩,
     ⟨(some 8), none, .mv (.t 1)⟩,
     ⟨(some 9), none, .bin .geq (.t 7) (.t 8)⟩,
     ⟨(some 10), none, .mv (.t 9)⟩,
     ⟨(some 11), (some (10, true)), .mv (.t 0)⟩,
     ⟨(some 12), (some (10, true)), .mv (.t 2)⟩,
     ⟨(some 13), (some (10, true)), .bin .leq (.t 11) (.t 12)⟩,
     ⟨(some 14), none, .pick (.t 10) (.t 13) (.c (.bool false))⟩,
     ⟨(some 6), none, .mv (.t 14)⟩])
   .ret))⟩

/-- signatory/signatoryref18.kind -/
def ref18_kind : FnIR := ⟨1, 9, [.t 2],
 (.seq (some ([0], []))
  (.ops [
    ⟨(some 2), none, .mv (.c (.bool false))⟩])
  (.seq none
   (.ops [
     ⟨(some 3), none, .mv (.t 0)⟩,
     ⟨(some 4), none, .bin .geq (.t 3) (.c (.int .i64 0))⟩,
     ⟨(some 5), none, .mv (.t 4)⟩,
     ⟨(some 6), (some (5, true)), .mv (.t 0)⟩,
     ⟨(some 7), (some (5, true)), .bin .lss (.t 6) (.c (.int .i64 16))⟩,
     ⟨(some 8), none, .pick (.t 5) (.t 7) (.c (.bool false))⟩,
     ⟨(some 2), none, .mv (.t 8)⟩])
   .ret))⟩

/-- signatory/signatoryref18.moment -/
def ref18_moment : FnIR := ⟨1, 9, [.t 2],
 (.seq (some ([0], []))
  (.ops [
    ⟨(some 2), none, .mv (.c (.bool false))⟩])
  (.seq none
   (.ops [
     ⟨(some 3), none, .mv (.t 0)⟩,
     ⟨(some 4), none, .bin .geq (.t 3) (.c (.int .i64 0))⟩,
     ⟨(some 5), none, .mv (.t 4)⟩,
     ⟨(some 6), (some (5, true)), .mv (.t 0)⟩,
     ⟨(some 7), (some (5, true)), .bin .lss (.t 6) (.c (.int .i64 1099511627776))⟩,
     ⟨(some 8), none, .pick (.t 5) (.t 7) (.c (.bool false))⟩,
     ⟨(some 2), none, .mv (.t 8)⟩])
   .ret))⟩

def slices_AppendSeq_int_int_a0 : IR :=
 (.ops [
   ⟨(some 5), none, .mv (.t 7)⟩])
def slices_AppendSeq_int_int_b0 : IR :=
 (.block 1
  (.ops [
    ⟨(some 8), none, .load false 1 (.t 2)⟩,
    ⟨(some 9), none, .mv (.t 5)⟩,
    ⟨(some 10), none, .bslice false 1 false [(.int .i64 0)] 1 [(0, (.t 9))]⟩,
    ⟨(some 11), none, .append false 1 false 8 (.t 8) (.t 10)⟩,
    ⟨none, none, .store 1 (.t 2) (.t 11)⟩]))
/-- slices.AppendSeq[[]int,int] -/
def slices_AppendSeq_int_int : FnIR := ⟨2, 13, [.t 4],
 (.seq (some ([1, 2], [2, 11]))
  (.ops [
    ⟨(some 2), none, .box 1 (.t 0)⟩,
    ⟨(some 4), none, .mv (.c (.list [] true))⟩])
  (.seq (some ([2], [2, 11]))
   (.seq (some ([2, 6], [2, 11]))
    (.ops [
      ⟨(some 6), none, .mv (.t 1)⟩])
    (.block 0
     (.rangef (.t 6) [7] slices_AppendSeq_int_int_a0 slices_AppendSeq_int_int_b0)))
   (.seq none
    (.ops [
      ⟨(some 12), none, .load false 1 (.t 2)⟩,
      ⟨(some 4), none, .mv (.t 12)⟩])
    .ret)))⟩

def slices_pdqsortOrdered_int_l0 : IR :=
 (.block 1
  (.seq (some ([0, 1, 2, 3, 8, 9, 10], []))
   (.ops [
     ⟨(some 19), none, .mv (.t 2)⟩,
     ⟨(some 20), none, .mv (.t 1)⟩,
     ⟨(some 21), none, .bin .sub (.t 19) (.t 20)⟩,
     ⟨(some 10), none, .mv (.t 21)⟩])
   (.seq (some ([0, 1, 2, 3, 8, 9, 10], []))
    (.seq (some ([0, 1, 2, 3, 8, 9, 10, 23], []))
     (.ops [
       ⟨(some 22), none, .mv (.t 10)⟩,
       ⟨(some 23), none, .bin .leq (.t 22) (.c (.int .i64 12))⟩])
     (.cond (.t 23)
      (.seq none
       (.ops [
         ⟨(some 24), none, .mv (.t 0)⟩,
         ⟨(some 25), none, .mv (.t 1)⟩,
         ⟨(some 26), none, .mv (.t 2)⟩,
         ⟨(some 27), none, .call (.f slices_insertionSortOrdered_int_id) [(.t 24), (.t 25), (.t 26)]⟩])
       .ret)
      .skip))
    (.seq (some ([0, 1, 2, 3, 8, 9, 10], []))
     (.seq (some ([0, 1, 2, 3, 8, 9, 10, 29], []))
      (.ops [
        ⟨(some 28), none, .mv (.t 3)⟩,
        ⟨(some 29), none, .bin .eql (.t 28) (.c (.int .i64 0))⟩])
      (.cond (.t 29)
       (.seq none
        (.ops [
          ⟨(some 30), none, .mv (.t 0)⟩,
          ⟨(some 31), none, .mv (.t 1)⟩,
          ⟨(some 32), none, .mv (.t 2)⟩,
          ⟨(some 33), none, .call (.f slices_heapSortOrdered_int_id) [(.t 30), (.t 31), (.t 32)]⟩])
        .ret)
       .skip))
     (.seq (some ([0, 1, 2, 3, 8, 9, 10], []))
      (.seq (some ([0, 1, 2, 3, 8, 9, 10, 35], []))
       (.ops [
         ⟨(some 34), none, .mv (.t 8)⟩,
         ⟨(some 35), none, .un .not (.t 34)⟩])
       (.cond (.t 35)
        (.seq (some ([0, 1, 2, 3, 8, 9, 10], []))
         (.ops [
           ⟨(some 36), none, .mv (.t 0)⟩,
           ⟨(some 37), none, .mv (.t 1)⟩,
           ⟨(some 38), none, .mv (.t 2)⟩,
           ⟨(some 39), none, .call (.f slices_breakPatternsOrdered_int_id) [(.t 36), (.t 37), (.t 38)]⟩])
         (.ops [
           ⟨(some 40), none, .mv (.t 3)⟩,
           ⟨(some 41), none, .bin .sub (.t 40) (.c (.int .i64 1))⟩,
           ⟨(some 3), none, .mv (.t 41)⟩]))
        .skip))
      (.seq (some ([0, 1, 2, 3, 8, 9, 10, 11, 12], []))
       (.ops [
         ⟨(some 43), none, .mv (.t 0)⟩,
         ⟨(some 44), none, .mv (.t 1)⟩,
         ⟨(some 45), none, .mv (.t 2)⟩,
         ⟨(some 46), none, .call (.f slices_choosePivotOrdered_int_id) [(.t 43), (.t 44), (.t 45)]⟩,
         ⟨(some 42), none, .mv (.t 46)⟩,
         ⟨(some 47), none, .ext (.t 42) 0⟩,
         ⟨(some 48), none, .ext (.t 42) 1⟩,
         ⟨(some 11), none, .mv (.t 47)⟩,
         ⟨(some 12), none, .mv (.t 48)⟩])
       (.seq (some ([0, 1, 2, 3, 8, 9, 10, 11, 12], []))
        (.seq (some ([0, 1, 2, 3, 8, 9, 10, 11, 12, 50], []))
         (.ops [
           ⟨(some 49), none, .mv (.t 12)⟩,
           ⟨(some 50), none, .bin .eql (.t 49) (.c (.int .i64 2))⟩])
         (.cond (.t 50)
          (.seq (some ([0, 1, 2, 3, 8, 9, 10, 11], []))
           (.ops [
             ⟨(some 51), none, .mv (.t 0)⟩,
             ⟨(some 52), none, .mv (.t 1)⟩,
             ⟨(some 53), none, .mv (.t 2)⟩,
             ⟨(some 54), none, .call (.f slices_reverseRangeOrdered_int_id) [(.t 51), (.t 52), (.t 53)]⟩])
           (.seq (some ([0, 1, 2, 3, 8, 9, 10, 11], []))
            (.ops [
              ⟨(some 55), none, .mv (.t 2)⟩,
              ⟨(some 56), none, .bin .sub (.t 55) (.c (.int .i64 1))⟩,
              ⟨(some 57), none, .mv (.t 11)⟩,
              ⟨(some 58), none, .mv (.t 1)⟩,
              ⟨(some 59), none, .bin .sub (.t 57) (.t 58)⟩,
              ⟨(some 60), none, .bin .sub (.t 56) (.t 59)⟩,
              ⟨(some 11), none, .mv (.t 60)⟩])
            (.ops [
              ⟨(some 12), none, .mv (.c (.int .i64 1))⟩])))
          .skip))
        (.seq (some ([0, 1, 2, 3, 8, 9, 10, 11], []))
         (.seq (some ([0, 1, 2, 3, 8, 9, 10, 11, 68], []))
          (.ops [
            ⟨(some 61), none, .mv (.t 8)⟩,
            ⟨(some 62), none, .mv (.t 61)⟩,
            ⟨(some 63), (some (62, true)), .mv (.t 9)⟩,
            ⟨(some 64), none, .pick (.t 62) (.t 63) (.c (.bool false))⟩,
            ⟨(some 65), none, .mv (.t 64)⟩,
            ⟨(some 66), (some (65, true)), .mv (.t 12)⟩,
            ⟨(some 67), (some (65, true)), .bin .eql (.t 66) (.c (.int .i64 1))⟩,
            ⟨(some 68), none, .pick (.t 65) (.t 67) (.c (.bool false))⟩])
          (.cond (.t 68)
           (.seq (some ([0, 1, 2, 3, 8, 9, 10, 11, 72], []))
            (.ops [
              ⟨(some 69), none, .mv (.t 0)⟩,
              ⟨(some 70), none, .mv (.t 1)⟩,
              ⟨(some 71), none, .mv (.t 2)⟩,
              ⟨(some 72), none, .call (.f slices_partialInsertionSortOrdered_int_id) [(.t 69), (.t 70), (.t 71)]⟩])
            (.cond (.t 72)
             .ret
             .skip))
           .skip))
         (.seq (some ([0, 1, 2, 3, 10, 11], []))
          (.seq (some ([0, 1, 2, 3, 8, 9, 10, 11, 87], []))
           (.ops [
             ⟨(some 73), none, .mv (.t 1)⟩,
             ⟨(some 74), none, .bin .gtr (.t 73) (.c (.int .i64 0))⟩,
             ⟨(some 75), none, .mv (.t 74)⟩,
             ⟨(some 76), (some (75, true)), .mv (.t 0)⟩,
             ⟨(some 77), (some (75, true)), .mv (.t 1)⟩,
             ⟨(some 78), (some (75, true)), .bin .sub (.t 77) (.c (.int .i64 1))⟩,
             ⟨(some 79), (some (75, true)), .iaddr 1 (.t 76) (.t 78)⟩,
             ⟨(some 80), (some (75, true)), .load false 1 (.t 79)⟩,
             ⟨(some 81), (some (75, true)), .mv (.t 0)⟩,
             ⟨(some 82), (some (75, true)), .mv (.t 11)⟩,
             ⟨(some 83), (some (75, true)), .iaddr 1 (.t 81) (.t 82)⟩,
             ⟨(some 84), (some (75, true)), .load false 1 (.t 83)⟩,
             ⟨(some 85), (some (75, true)), .call (.f cmp_Less_int_id) [(.t 80), (.t 84)]⟩,
             ⟨(some 86), (some (75, true)), .un .not (.t 85)⟩,
             ⟨(some 87), none, .pick (.t 75) (.t 86) (.c (.bool false))⟩])
           (.cond (.t 87)
            (.seq (some ([0, 2, 3, 8, 9, 13], []))
             (.ops [
               ⟨(some 88), none, .mv (.t 0)⟩,
               ⟨(some 89), none, .mv (.t 1)⟩,
               ⟨(some 90), none, .mv (.t 2)⟩,
               ⟨(some 91), none, .mv (.t 11)⟩,
               ⟨(some 92), none, .call (.f slices_partitionEqualOrdered_int_id) [(.t 88), (.t 89), (.t 90), (.t 91)]⟩,
               ⟨(some 13), none, .mv (.t 92)⟩])
             (.seq (some ([0, 1, 2, 3, 8, 9], []))
              (.ops [
                ⟨(some 93), none, .mv (.t 13)⟩,
                ⟨(some 1), none, .mv (.t 93)⟩])
              (.exit 1)))
            .skip))
          (.seq (some ([0, 1, 2, 3, 10, 14, 15], []))
           (.ops [
             ⟨(some 95), none, .mv (.t 0)⟩,
             ⟨(some 96), none, .mv (.t 1)⟩,
             ⟨(some 97), none, .mv (.t 2)⟩,
             ⟨(some 98), none, .mv (.t 11)⟩,
             ⟨(some 99), none, .call (.f slices_partitionOrdered_int_id) [(.t 95), (.t 96), (.t 97), (.t 98)]⟩,
             ⟨(some 94), none, .mv (.t 99)⟩,
             ⟨(some 100), none, .ext (.t 94) 0⟩,
             ⟨(some 101), none, .ext (.t 94) 1⟩,
             ⟨(some 14), none, .mv (.t 100)⟩,
             ⟨(some 15), none, .mv (.t 101)⟩])
           (.seq (some ([0, 1, 2, 3, 9, 10, 14], []))
            (.ops [
              ⟨(some 102), none, .mv (.t 15)⟩,
              ⟨(some 9), none, .mv (.t 102)⟩])
            (.seq (some ([0, 1, 2, 3, 9, 10, 14, 16, 17], []))
             (.ops [
               ⟨(some 103), none, .mv (.t 14)⟩,
               ⟨(some 104), none, .mv (.t 1)⟩,
               ⟨(some 105), none, .bin .sub (.t 103) (.t 104)⟩,
               ⟨(some 106), none, .mv (.t 2)⟩,
               ⟨(some 107), none, .mv (.t 14)⟩,
               ⟨(some 108), none, .bin .sub (.t 106) (.t 107)⟩,
               ⟨(some 16), none, .mv (.t 105)⟩,
               ⟨(some 17), none, .mv (.t 108)⟩])
             (.seq (some ([0, 1, 2, 3, 9, 14, 16, 17, 18], []))
              (.ops [
                ⟨(some 109), none, .mv (.t 10)⟩,
                ⟨(some 110), none, .bin .quo (.t 109) (.c (.int .i64 8))⟩,
                ⟨(some 18), none, .mv (.t 110)⟩])
              (.seq (some ([0, 1, 2, 3, 9, 14, 16, 17, 18, 113], []))
               (.ops [
                 ⟨(some 111), none, .mv (.t 16)⟩,
                 ⟨(some 112), none, .mv (.t 17)⟩,
                 ⟨(some 113), none, .bin .lss (.t 111) (.t 112)⟩])
               (.cond (.t 113)
                (.seq (some ([0, 1, 2, 3, 8, 9, 14], []))
                 (.ops [
                   ⟨(some 114), none, .mv (.t 16)⟩,
                   ⟨(some 115), none, .mv (.t 18)⟩,
                   ⟨(some 116), none, .bin .geq (.t 114) (.t 115)⟩,
                   ⟨(some 8), none, .mv (.t 116)⟩])
                 (.seq (some ([0, 2, 3, 8, 9, 14], []))
                  (.ops [
                    ⟨(some 117), none, .mv (.t 0)⟩,
                    ⟨(some 118), none, .mv (.t 1)⟩,
                    ⟨(some 119), none, .mv (.t 14)⟩,
                    ⟨(some 120), none, .mv (.t 3)⟩,
                    ⟨(some 121), none, .call (.f slices_pdqsortOrdered_int_id) [(.t 117), (.t 118), (.t 119), (.t 120)]⟩])
                  (.ops [
                    ⟨(some 122), none, .mv (.t 14)⟩,
                    ⟨(some 123), none, .bin .add (.t 122) (.c (.int .i64 1))⟩,
                    ⟨(some 1), none, .mv (.t 123)⟩])))
                (.seq (some ([0, 1, 2, 3, 8, 9, 14], []))
                 (.ops [
                   ⟨(some 124), none, .mv (.t 17)⟩,
                   ⟨(some 125), none, .mv (.t 18)⟩,
                   ⟨(some 126), none, .bin .geq (.t 124) (.t 125)⟩,
                   ⟨(some 8), none, .mv (.t 126)⟩])
                 (.seq (some ([0, 1, 3, 8, 9, 14], []))
                  (.ops [
                    ⟨(some 127), none, .mv (.t 0)⟩,
                    ⟨(some 128), none, .mv (.t 14)⟩,
                    ⟨(some 129), none, .bin .add (.t 128) (.c (.int .i64 1))⟩,
                    ⟨(some 130), none, .mv (.t 2)⟩,
                    ⟨(some 131), none, .mv (.t 3)⟩,
                    ⟨(some 132), none, .call (.f slices_pdqsortOrdered_int_id) [(.t 127), (.t 129), (.t 130), (.t 131)]⟩])
                  (.ops [
                    ⟨(some 133), none, .mv (.t 14)⟩,
                    ⟨(some 2), none, .mv (.t 133)⟩]))))))))))))))))))
/-- slices.pdqsortOrdered[int] -/
def slices_pdqsortOrdered_int : FnIR := ⟨4, 134, [],
 (.seq (some ([0, 1, 2, 3, 8], []))
  (.ops [
    ⟨(some 8), none, .mv (.c (.bool true))⟩])
  (.seq (some ([0, 1, 2, 3, 8, 9], []))
   (.ops [
     ⟨(some 9), none, .mv (.c (.bool true))⟩])
   (.block 0
    (.loop slices_pdqsortOrdered_int_l0))))⟩

/-- math/bits.Len -/
def math_bits_Len : FnIR := ⟨1, 8, [.t 2],
 (.seq (some ([0], []))
  (.ops [
    ⟨(some 2), none, .mv (.c (.int .i64 0))⟩])
  (.seq (some ([0], []))
   (.cond (.c (.bool false))
    (.seq none
     (.ops [
       ⟨(some 3), none, .mv (.t 0)⟩,
       ⟨(some 4), none, .convi .u32 (.t 3)⟩,
       ⟨(some 5), none, .call (.f math_bits_Len32_id) [(.t 4)]⟩,
       ⟨(some 2), none, .mv (.t 5)⟩])
     .ret)
    .skip)
   (.seq none
    (.ops [
      ⟨(some 6), none, .mv (.t 0)⟩,
      ⟨(some 7), none, .call (.f math_bits_Len64_id) [(.t 6)]⟩,
      ⟨(some 2), none, .mv (.t 7)⟩])
    .ret)))⟩

def ref18_standing_l0 : IR :=
 (.seq (some ([0, 1, 2, 3, 9, 10], [46]))
  (.seq (some ([0, 1, 2, 3, 9, 10, 15], [46]))
   (.ops [
     ⟨(some 12), none, .mv (.t 10)⟩,
     ⟨(some 13), none, .mv (.t 0)⟩,
     ⟨(some 14), none, .blen .slice (.t 13)⟩,
     ⟨(some 15), none, .bin .lss (.t 12) (.t 14)⟩])
   (.cond (.t 15)
    .skip
    (.exit 0)))
  (.seq (some ([0, 1, 2, 3, 9, 10], [46]))
   (.block 1
    (.seq (some ([0, 1, 2, 3, 9, 10, 39], [46]))
     (.ops [
       ⟨(some 18), none, .mv (.t 0)⟩,
       ⟨(some 19), none, .mv (.t 10)⟩,
       ⟨(some 20), none, .iaddr 8 (.t 18) (.t 19)⟩,
       ⟨(some 21), none, .faddr 3 (.t 20)⟩,
       ⟨(some 22), none, .load false 1 (.t 21)⟩,
       ⟨(some 23), none, .bin .eql (.t 22) (.c (.int .i64 (-1)))⟩,
       ⟨(some 24), none, .mv (.t 23)⟩,
       ⟨(some 25), (some (24, false)), .mv (.t 0)⟩,
       ⟨(some 26), (some (24, false)), .mv (.t 10)⟩,
       ⟨(some 27), (some (24, false)), .iaddr 8 (.t 25) (.t 26)⟩,
       ⟨(some 28), (some (24, false)), .faddr 3 (.t 27)⟩,
       ⟨(some 29), (some (24, false)), .load false 1 (.t 28)⟩,
       ⟨(some 30), (some (24, false)), .mv (.t 1)⟩,
       ⟨(some 31), (some (24, false)), .bin .eql (.t 29) (.t 30)⟩,
       ⟨(some 32), none, .pick (.t 24) (.c (.bool true)) (.t 31)⟩,
       ⟨(some 33), none, .mv (.t 32)⟩,
       ⟨(some 34), (some (33, true)), .mv (.t 0)⟩,
       ⟨(some 35), (some (33, true)), .mv (.t 10)⟩,
       ⟨(some 36), (some (33, true)), .mv (.t 2)⟩,
       ⟨(some 37), (some (33, true)), .mv (.t 3)⟩,
       ⟨(some 38), (some (33, true)), .call (.f ref18_stands_id) [(.t 34), (.t 35), (.t 36), (.t 37)]⟩,
       ⟨(some 39), none, .pick (.t 33) (.t 38) (.c (.bool false))⟩])
     (.cond (.t 39)
      (.ops [
        ⟨(some 40), none, .mv (.t 9)⟩,
        ⟨(some 41), none, .mv (.t 0)⟩,
        ⟨(some 42), none, .mv (.t 10)⟩,
        ⟨(some 43), none, .iaddr 8 (.t 41) (.t 42)⟩,
        ⟨(some 44), none, .load true 8 (.t 43)⟩,
        ⟨(some 45), none, .bslice false 8 true [(.int .i64 0), (.int .i64 0), (.int .i64 0), (.int .i64 0), (.int .i64 0), (.int .i64 0), (.int .i64 0), (.bool false)] 1 [(0, (.t 44))]⟩,
        ⟨(some 46), none, .append false 8 true 64 (.t 40) (.t 45)⟩,
        ⟨(some 9), none, .mv (.t 46)⟩])
      .skip)))
   (.ops [
     ⟨(some 16), none, .mv (.t 10)⟩,
     ⟨(some 17), none, .bin .add (.t 16) (.c (.int .i64 1))⟩,
     ⟨(some 10), none, .mv (.t 17)⟩])))
/-- signatory/signatoryref18.standing -/
def ref18_standing : FnIR := ⟨4, 48, [.t 8],
 (.seq (some ([0, 1, 2, 3], []))
  (.ops [
    ⟨(some 8), none, .mv (.c (.list [] true))⟩])
  (.seq (some ([0, 1, 2, 3, 9], [46]))
   (.ops [
     ⟨(some 11), none, .bslice false 8 true [(.int .i64 0), (.int .i64 0), (.int .i64 0), (.int .i64 0), (.int .i64 0), (.int .i64 0), (.int .i64 0), (.bool false)] 0 []⟩,
     ⟨(some 9), none, .mv (.t 11)⟩])
   (.seq (some ([9], [46]))
    (.seq (some ([0, 1, 2, 3, 9, 10], [46]))
     (.ops [
       ⟨(some 10), none, .mv (.c (.int .i64 0))⟩])
     (.block 0
      (.loop ref18_standing_l0)))
    (.seq none
     (.ops [
       ⟨(some 47), none, .mv (.t 9)⟩,
       ⟨(some 8), none, .mv (.t 47)⟩])
     .ret))))⟩

def slices_IndexFunc_int_int_l0 : IR :=
 (.seq (some ([0, 1, 7, 8, 9], []))
  (.ops [
    ⟨(some 9), none, .bin .lss (.t 8) (.t 7)⟩])
  (.seq (some ([0, 1, 7, 8], []))
   (.cond (.t 9)
    .skip
    (.exit 0))
   (.seq (some ([0, 1, 7, 8], []))
    (.block 1
     (.seq (some ([0, 1, 5, 7, 8], []))
      (.ops [
        ⟨(some 10), none, .mv (.t 8)⟩,
        ⟨(some 5), none, .mv (.t 10)⟩])
      (.seq (some ([0, 1, 5, 7, 8, 16], []))
       (.ops [
         ⟨(some 11), none, .mv (.t 1)⟩,
         ⟨(some 12), none, .mv (.t 0)⟩,
         ⟨(some 13), none, .mv (.t 5)⟩,
         ⟨(some 14), none, .iaddr 1 (.t 12) (.t 13)⟩,
         ⟨(some 15), none, .load false 1 (.t 14)⟩,
         ⟨(some 16), none, .call (.t 11) [(.t 15)]⟩])
       (.cond (.t 16)
        (.seq none
         (.ops [
           ⟨(some 17), none, .mv (.t 5)⟩,
           ⟨(some 4), none, .mv (.t 17)⟩])
         .ret)
        .skip))))
    (.ops [
      ⟨(some 18), none, .bin .add (.t 8) (.c (.int .i64 1))⟩,
      ⟨(some 8), none, .mv (.t 18)⟩]))))
/-- slices.IndexFunc[[]int,int] -/
def slices_IndexFunc_int_int : FnIR := ⟨2, 19, [.t 4],
 (.seq (some ([0, 1], []))
  (.ops [
    ⟨(some 4), none, .mv (.c (.int .i64 0))⟩])
  (.seq (some ([], []))
   (.seq (some ([0, 1, 7, 8], []))
    (.ops [
      ⟨(some 6), none, .mv (.t 0)⟩,
      ⟨(some 7), none, .blen .slice (.t 6)⟩,
      ⟨(some 8), none, .mv (.c (.int .i64 0))⟩])
    (.block 0
     (.loop slices_IndexFunc_int_int_l0)))
   (.seq none
    (.ops [
      ⟨(some 4), none, .mv (.c (.int .i64 (-1)))⟩])
    .ret)))⟩

def slices_insertionSortOrdered_int_l0 : IR :=
 (.seq (some ([0, 1, 2, 6, 7], []))
  (.seq (some ([0, 1, 2, 6, 7, 30], []))
   (.ops [
     ⟨(some 16), none, .mv (.t 7)⟩,
     ⟨(some 17), none, .mv (.t 1)⟩,
     ⟨(some 18), none, .bin .gtr (.t 16) (.t 17)⟩,
     ⟨(some 19), none, .mv (.t 18)⟩,
     ⟨(some 20), (some (19, true)), .mv (.t 0)⟩,
     ⟨(some 21), (some (19, true)), .mv (.t 7)⟩,
     ⟨(some 22), (some (19, true)), .iaddr 1 (.t 20) (.t 21)⟩,
     ⟨(some 23), (some (19, true)), .load false 1 (.t 22)⟩,
     ⟨(some 24), (some (19, true)), .mv (.t 0)⟩,
     ⟨(some 25), (some (19, true)), .mv (.t 7)⟩,
     ⟨(some 26), (some (19, true)), .bin .sub (.t 25) (.c (.int .i64 1))⟩,
     ⟨(some 27), (some (19, true)), .iaddr 1 (.t 24) (.t 26)⟩,
     ⟨(some 28), (some (19, true)), .load false 1 (.t 27)⟩,
     ⟨(some 29), (some (19, true)), .call (.f cmp_Less_int_id) [(.t 23), (.t 28)]⟩,
     ⟨(some 30), none, .pick (.t 19) (.t 29) (.c (.bool false))⟩])
   (.cond (.t 30)
    .skip
    (.exit 2)))
  (.seq (some ([0, 1, 2, 6, 7], []))
   (.block 3
    (.draw [
      ⟨0, false, ⟨(some 33), none, .mv (.t 0)⟩⟩,
      ⟨1, false, ⟨(some 34), none, .mv (.t 7)⟩⟩,
      ⟨2, true, ⟨(some 35), none, .mv (.t 0)⟩⟩,
      ⟨3, true, ⟨(some 36), none, .mv (.t 7)⟩⟩,
      ⟨4, true, ⟨(some 37), none, .bin .sub (.t 36) (.c (.int .i64 1))⟩⟩,
      ⟨5, false, ⟨(some 38), none, .mv (.t 0)⟩⟩,
      ⟨6, false, ⟨(some 39), none, .mv (.t 7)⟩⟩,
      ⟨7, false, ⟨(some 40), none, .bin .sub (.t 39) (.c (.int .i64 1))⟩⟩,
      ⟨8, false, ⟨(some 41), none, .iaddr 1 (.t 38) (.t 40)⟩⟩,
      ⟨9, false, ⟨(some 42), none, .load false 1 (.t 41)⟩⟩,
      ⟨10, false, ⟨(some 43), none, .mv (.t 0)⟩⟩,
      ⟨11, false, ⟨(some 44), none, .mv (.t 7)⟩⟩,
      ⟨12, false, ⟨(some 45), none, .iaddr 1 (.t 43) (.t 44)⟩⟩,
      ⟨13, false, ⟨(some 46), none, .load false 1 (.t 45)⟩⟩,
      ⟨14, false, ⟨(some 47), none, .iaddr 1 (.t 33) (.t 34)⟩⟩,
      ⟨15, false, ⟨none, none, .store 1 (.t 47) (.t 42)⟩⟩,
      ⟨16, false, ⟨(some 48), none, .iaddr 1 (.t 35) (.t 37)⟩⟩,
      ⟨17, false, ⟨none, none, .store 1 (.t 48) (.t 46)⟩⟩]))
   (.ops [
     ⟨(some 31), none, .mv (.t 7)⟩,
     ⟨(some 32), none, .bin .sub (.t 31) (.c (.int .i64 1))⟩,
     ⟨(some 7), none, .mv (.t 32)⟩])))
def slices_insertionSortOrdered_int_l1 : IR :=
 (.seq (some ([0, 1, 2, 6], []))
  (.seq (some ([0, 1, 2, 6, 12], []))
   (.ops [
     ⟨(some 10), none, .mv (.t 6)⟩,
     ⟨(some 11), none, .mv (.t 2)⟩,
     ⟨(some 12), none, .bin .lss (.t 10) (.t 11)⟩])
   (.cond (.t 12)
    .skip
    (.exit 0)))
  (.seq (some ([0, 1, 2, 6], []))
   (.block 1
    (.seq (some ([0, 1, 2, 6, 7], []))
     (.ops [
       ⟨(some 15), none, .mv (.t 6)⟩,
       ⟨(some 7), none, .mv (.t 15)⟩])
     (.block 2
      (.loop slices_insertionSortOrdered_int_l0))))
   (.ops [
     ⟨(some 13), none, .mv (.t 6)⟩,
     ⟨(some 14), none, .bin .add (.t 13) (.c (.int .i64 1))⟩,
     ⟨(some 6), none, .mv (.t 14)⟩])))
/-- slices.insertionSortOrdered[int] -/
def slices_insertionSortOrdered_int : FnIR := ⟨3, 49, [],
 (.seq (some ([0, 1, 2, 6], []))
  (.ops [
    ⟨(some 8), none, .mv (.t 1)⟩,
    ⟨(some 9), none, .bin .add (.t 8) (.c (.int .i64 1))⟩,
    ⟨(some 6), none, .mv (.t 9)⟩])
  (.block 0
   (.loop slices_insertionSortOrdered_int_l1)))⟩

def slices_heapSortOrdered_int_l0 : IR :=
 (.seq (some ([0, 6, 7, 8, 9], []))
  (.seq (some ([0, 6, 7, 8, 9, 19], []))
   (.ops [
     ⟨(some 18), none, .mv (.t 9)⟩,
     ⟨(some 19), none, .bin .geq (.t 18) (.c (.int .i64 0))⟩])
   (.cond (.t 19)
    .skip
    (.exit 0)))
  (.seq (some ([0, 6, 7, 8, 9], []))
   (.block 1
    (.ops [
      ⟨(some 22), none, .mv (.t 0)⟩,
      ⟨(some 23), none, .mv (.t 9)⟩,
      ⟨(some 24), none, .mv (.t 8)⟩,
      ⟨(some 25), none, .mv (.t 6)⟩,
      ⟨(some 26), none, .call (.f slices_siftDownOrdered_int_id) [(.t 22), (.t 23), (.t 24), (.t 25)]⟩]))
   (.ops [
     ⟨(some 20), none, .mv (.t 9)⟩,
     ⟨(some 21), none, .bin .sub (.t 20) (.c (.int .i64 1))⟩,
     ⟨(some 9), none, .mv (.t 21)⟩])))
def slices_heapSortOrdered_int_l1 : IR :=
 (.seq (some ([0, 6, 7, 10], []))
  (.seq (some ([0, 6, 7, 10, 30], []))
   (.ops [
     ⟨(some 29), none, .mv (.t 10)⟩,
     ⟨(some 30), none, .bin .geq (.t 29) (.c (.int .i64 0))⟩])
   (.cond (.t 30)
    .skip
    (.exit 2)))
  (.seq (some ([0, 6, 7, 10], []))
   (.block 3
    (.seq (some ([0, 6, 7, 10], []))
     (.draw [
       ⟨0, false, ⟨(some 33), none, .mv (.t 0)⟩⟩,
       ⟨1, false, ⟨(some 34), none, .mv (.t 6)⟩⟩,
       ⟨2, true, ⟨(some 35), none, .mv (.t 0)⟩⟩,
       ⟨3, true, ⟨(some 36), none, .mv (.t 6)⟩⟩,
       ⟨4, true, ⟨(some 37), none, .mv (.t 10)⟩⟩,
       ⟨5, true, ⟨(some 38), none, .bin .add (.t 36) (.t 37)⟩⟩,
       ⟨6, false, ⟨(some 39), none, .mv (.t 0)⟩⟩,
       ⟨7, false, ⟨(some 40), none, .mv (.t 6)⟩⟩,
       ⟨8, false, ⟨(some 41), none, .mv (.t 10)⟩⟩,
       ⟨9, false, ⟨(some 42), none, .bin .add (.t 40) (.t 41)⟩⟩,
       ⟨10, false, ⟨(some 43), none, .iaddr 1 (.t 39) (.t 42)⟩⟩,
       ⟨11, false, ⟨(some 44), none, .load false 1 (.t 43)⟩⟩,
       ⟨12, false, ⟨(some 45), none, .mv (.t 0)⟩⟩,
       ⟨13, false, ⟨(some 46), none, .mv (.t 6)⟩⟩,
       ⟨14, false, ⟨(some 47), none, .iaddr 1 (.t 45) (.t 46)⟩⟩,
       ⟨15, false, ⟨(some 48), none, .load false 1 (.t 47)⟩⟩,
       ⟨16, false, ⟨(some 49), none, .iaddr 1 (.t 33) (.t 34)⟩⟩,
       ⟨17, false, ⟨none, none, .store 1 (.t 49) (.t 44)⟩⟩,
       ⟨18, false, ⟨(some 50), none, .iaddr 1 (.t 35) (.t 38)⟩⟩,
       ⟨19, false, ⟨none, none, .store 1 (.t 50) (.t 48)⟩⟩])
     (.ops [
       ⟨(some 51), none, .mv (.t 0)⟩,
       ⟨(some 52), none, .mv (.t 7)⟩,
       ⟨(some 53), none, .mv (.t 10)⟩,
       ⟨(some 54), none, .mv (.t 6)⟩,
       ⟨(some 55), none, .call (.f slices_siftDownOrdered_int_id) [(.t 51), (.t 52), (.t 53), (.t 54)]⟩])))
   (.ops [
     ⟨(some 31), none, .mv (.t 10)⟩,
     ⟨(some 32), none, .bin .sub (.t 31) (.c (.int .i64 1))⟩,
     ⟨(some 10), none, .mv (.t 32)⟩])))
/-- slices.heapSortOrdered[int] -/
def slices_heapSortOrdered_int : FnIR := ⟨3, 56, [],
 (.seq (some ([0, 1, 2, 6], []))
  (.ops [
    ⟨(some 11), none, .mv (.t 1)⟩,
    ⟨(some 6), none, .mv (.t 11)⟩])
  (.seq (some ([0, 1, 2, 6, 7], []))
   (.ops [
     ⟨(some 7), none, .mv (.c (.int .i64 0))⟩])
   (.seq (some ([0, 6, 7, 8], []))
    (.ops [
      ⟨(some 12), none, .mv (.t 2)⟩,
      ⟨(some 13), none, .mv (.t 1)⟩,
      ⟨(some 14), none, .bin .sub (.t 12) (.t 13)⟩,
      ⟨(some 8), none, .mv (.t 14)⟩])
    (.seq (some ([0, 6, 7, 8], []))
     (.seq (some ([0, 6, 7, 8, 9], []))
      (.ops [
        ⟨(some 15), none, .mv (.t 8)⟩,
        ⟨(some 16), none, .bin .sub (.t 15) (.c (.int .i64 1))⟩,
        ⟨(some 17), none, .bin .quo (.t 16) (.c (.int .i64 2))⟩,
        ⟨(some 9), none, .mv (.t 17)⟩])
      (.block 0
       (.loop slices_heapSortOrdered_int_l0)))
     (.seq (some ([0, 6, 7, 10], []))
      (.ops [
        ⟨(some 27), none, .mv (.t 8)⟩,
        ⟨(some 28), none, .bin .sub (.t 27) (.c (.int .i64 1))⟩,
        ⟨(some 10), none, .mv (.t 28)⟩])
      (.block 2
       (.loop slices_heapSortOrdered_int_l1)))))))⟩

def slices_breakPatternsOrdered_int_l0 : IR :=
 (.seq (some ([0, 1, 6, 7, 8, 9], [7]))
  (.seq (some ([0, 1, 6, 7, 8, 9, 33], [7]))
   (.ops [
     ⟨(some 26), none, .mv (.t 9)⟩,
     ⟨(some 27), none, .mv (.t 1)⟩,
     ⟨(some 28), none, .mv (.t 6)⟩,
     ⟨(some 29), none, .bin .quo (.t 28) (.c (.int .i64 4))⟩,
     ⟨(some 30), none, .bin .mul (.t 29) (.c (.int .i64 2))⟩,
     ⟨(some 31), none, .bin .add (.t 27) (.t 30)⟩,
     ⟨(some 32), none, .bin .add (.t 31) (.c (.int .i64 1))⟩,
     ⟨(some 33), none, .bin .leq (.t 26) (.t 32)⟩])
   (.cond (.t 33)
    .skip
    (.exit 0)))
  (.seq (some ([0, 1, 6, 7, 8, 9], [7]))
   (.block 1
    (.seq (some ([0, 1, 6, 7, 8, 9, 10], [7]))
     (.ops [
       ⟨(some 36), none, .call (.f slices_xorshift_Next_id) [(.t 7)]⟩,
       ⟨(some 37), none, .mv (.t 8)⟩,
       ⟨(some 38), none, .bin .sub (.t 37) (.c (.int .u64 1))⟩,
       ⟨(some 39), none, .bin .and (.t 36) (.t 38)⟩,
       ⟨(some 40), none, .convi .i64 (.t 39)⟩,
       ⟨(some 10), none, .mv (.t 40)⟩])
     (.seq (some ([0, 1, 6, 7, 8, 9, 10], [7]))
      (.seq (some ([0, 1, 6, 7, 8, 9, 10, 43], [7]))
       (.ops [
         ⟨(some 41), none, .mv (.t 10)⟩,
         ⟨(some 42), none, .mv (.t 6)⟩,
         ⟨(some 43), none, .bin .geq (.t 41) (.t 42)⟩])
       (.cond (.t 43)
        (.ops [
          ⟨(some 44), none, .mv (.t 10)⟩,
          ⟨(some 45), none, .mv (.t 6)⟩,
          ⟨(some 46), none, .bin .sub (.t 44) (.t 45)⟩,
          ⟨(some 10), none, .mv (.t 46)⟩])
        .skip))
      (.draw [
        ⟨0, false, ⟨(some 47), none, .mv (.t 0)⟩⟩,
        ⟨1, false, ⟨(some 48), none, .mv (.t 9)⟩⟩,
        ⟨2, true, ⟨(some 49), none, .mv (.t 0)⟩⟩,
        ⟨3, true, ⟨(some 50), none, .mv (.t 1)⟩⟩,
        ⟨4, true, ⟨(some 51), none, .mv (.t 10)⟩⟩,
        ⟨5, true, ⟨(some 52), none, .bin .add (.t 50) (.t 51)⟩⟩,
        ⟨6, false, ⟨(some 53), none, .mv (.t 0)⟩⟩,
        ⟨7, false, ⟨(some 54), none, .mv (.t 1)⟩⟩,
        ⟨8, false, ⟨(some 55), none, .mv (.t 10)⟩⟩,
        ⟨9, false, ⟨(some 56), none, .bin .add (.t 54) (.t 55)⟩⟩,
        ⟨10, false, ⟨(some 57), none, .iaddr 1 (.t 53) (.t 56)⟩⟩,
        ⟨11, false, ⟨(some 58), none, .load false 1 (.t 57)⟩⟩,
        ⟨12, false, ⟨(some 59), none, .mv (.t 0)⟩⟩,
        ⟨13, false, ⟨(some 60), none, .mv (.t 9)⟩⟩,
        ⟨14, false, ⟨(some 61), none, .iaddr 1 (.t 59) (.t 60)⟩⟩,
        ⟨15, false, ⟨(some 62), none, .load false 1 (.t 61)⟩⟩,
        ⟨16, false, ⟨(some 63), none, .iaddr 1 (.t 47) (.t 48)⟩⟩,
        ⟨17, false, ⟨none, none, .store 1 (.t 63) (.t 58)⟩⟩,
        ⟨18, false, ⟨(some 64), none, .iaddr 1 (.t 49) (.t 52)⟩⟩,
        ⟨19, false, ⟨none, none, .store 1 (.t 64) (.t 62)⟩⟩]))))
   (.ops [
     ⟨(some 34), none, .mv (.t 9)⟩,
     ⟨(some 35), none, .bin .add (.t 34) (.c (.int .i64 1))⟩,
     ⟨(some 9), none, .mv (.t 35)⟩])))
/-- slices.breakPatternsOrdered[int] -/
def slices_breakPatternsOrdered_int : FnIR := ⟨3, 65, [],
 (.seq (some ([0, 1, 6], []))
  (.ops [
    ⟨(some 11), none, .mv (.t 2)⟩,
    ⟨(some 12), none, .mv (.t 1)⟩,
    ⟨(some 13), none, .bin .sub (.t 11) (.t 12)⟩,
    ⟨(some 6), none, .mv (.t 13)⟩])
  (.seq (some ([0, 1, 6, 15], []))
   (.ops [
     ⟨(some 14), none, .mv (.t 6)⟩,
     ⟨(some 15), none, .bin .geq (.t 14) (.c (.int .i64 8))⟩])
   (.cond (.t 15)
    (.seq (some ([0, 1, 6, 7], [7]))
     (.ops [
       ⟨(some 16), none, .mv (.t 6)⟩,
       ⟨(some 17), none, .convi .u64 (.t 16)⟩,
       ⟨(some 7), none, .alloc [(.int .u64 0)]⟩,
       ⟨none, none, .store 1 (.t 7) (.t 17)⟩])
     (.seq (some ([0, 1, 6, 7, 8], [7]))
      (.ops [
        ⟨(some 18), none, .mv (.t 6)⟩,
        ⟨(some 19), none, .call (.f slices_nextPowerOfTwo_id) [(.t 18)]⟩,
        ⟨(some 8), none, .mv (.t 19)⟩])
      (.seq (some ([0, 1, 6, 7, 8, 9], [7]))
       (.ops [
         ⟨(some 20), none, .mv (.t 1)⟩,
         ⟨(some 21), none, .mv (.t 6)⟩,
         ⟨(some 22), none, .bin .quo (.t 21) (.c (.int .i64 4))⟩,
         ⟨(some 23), none, .bin .mul (.t 22) (.c (.int .i64 2))⟩,
         ⟨(some 24), none, .bin .add (.t 20) (.t 23)⟩,
         ⟨(some 25), none, .bin .sub (.t 24) (.c (.int .i64 1))⟩,
         ⟨(some 9), none, .mv (.t 25)⟩])
       (.block 0
        (.loop slices_breakPatternsOrdered_int_l0)))))
    .skip)))⟩

/-- slices.choosePivotOrdered[int] -/
def slices_choosePivotOrdered_int : FnIR := ⟨3, 57, [.t 6, .t 7],
 (.seq (some ([0, 1, 2], []))
  (.ops [
    ⟨(some 6), none, .mv (.c (.int .i64 0))⟩,
    ⟨(some 7), none, .mv (.c (.int .i64 0))⟩])
  (.seq (some ([0, 1, 8], []))
   (.ops [
     ⟨(some 13), none, .mv (.t 2)⟩,
     ⟨(some 14), none, .mv (.t 1)⟩,
     ⟨(some 15), none, .bin .sub (.t 13) (.t 14)⟩,
     ⟨(some 8), none, .mv (.t 15)⟩])
   (.seq (some ([0, 1, 8, 9], [9]))
    (.ops [
      ⟨(some 9), none, .alloc [(.int .i64 0)]⟩])
    (.seq (some ([0, 1, 8, 9, 10], [9]))
     (.ops [
       ⟨(some 16), none, .mv (.t 1)⟩,
       ⟨(some 17), none, .mv (.t 8)⟩,
       ⟨(some 18), none, .bin .quo (.t 17) (.c (.int .i64 4))⟩,
       ⟨(some 19), none, .bin .mul (.t 18) (.c (.int .i64 1))⟩,
       ⟨(some 20), none, .bin .add (.t 16) (.t 19)⟩,
       ⟨(some 10), none, .mv (.t 20)⟩])
     (.seq (some ([0, 1, 8, 9, 10, 11], [9]))
      (.ops [
        ⟨(some 21), none, .mv (.t 1)⟩,
        ⟨(some 22), none, .mv (.t 8)⟩,
        ⟨(some 23), none, .bin .quo (.t 22) (.c (.int .i64 4))⟩,
        ⟨(some 24), none, .bin .mul (.t 23) (.c (.int .i64 2))⟩,
        ⟨(some 25), none, .bin .add (.t 21) (.t 24)⟩,
        ⟨(some 11), none, .mv (.t 25)⟩])
      (.seq (some ([0, 8, 9, 10, 11, 12], [9]))
       (.ops [
         ⟨(some 26), none, .mv (.t 1)⟩,
         ⟨(some 27), none, .mv (.t 8)⟩,
         ⟨(some 28), none, .bin .quo (.t 27) (.c (.int .i64 4))⟩,
         ⟨(some 29), none, .bin .mul (.t 28) (.c (.int .i64 3))⟩,
         ⟨(some 30), none, .bin .add (.t 26) (.t 29)⟩,
         ⟨(some 12), none, .mv (.t 30)⟩])
       (.seq (some ([9, 11], [9]))
        (.seq (some ([0, 8, 9, 10, 11, 12, 32], [9]))
         (.ops [
           ⟨(some 31), none, .mv (.t 8)⟩,
           ⟨(some 32), none, .bin .geq (.t 31) (.c (.int .i64 8))⟩])
         (.cond (.t 32)
          (.seq (some ([0, 9, 10, 11, 12], [9]))
           (.seq (some ([0, 9, 10, 11, 12, 34], [9]))
            (.ops [
              ⟨(some 33), none, .mv (.t 8)⟩,
              ⟨(some 34), none, .bin .geq (.t 33) (.c (.int .i64 50))⟩])
            (.cond (.t 34)
             (.seq (some ([0, 9, 10, 11, 12], [9]))
              (.ops [
                ⟨(some 35), none, .mv (.t 0)⟩,
                ⟨(some 36), none, .mv (.t 10)⟩,
                ⟨(some 37), none, .call (.f slices_medianAdjacentOrdered_int_id) [(.t 35), (.t 36), (.t 9)]⟩,
                ⟨(some 10), none, .mv (.t 37)⟩])
              (.seq (some ([0, 9, 10, 11, 12], [9]))
               (.ops [
                 ⟨(some 38), none, .mv (.t 0)⟩,
                 ⟨(some 39), none, .mv (.t 11)⟩,
                 ⟨(some 40), none, .call (.f slices_medianAdjacentOrdered_int_id) [(.t 38), (.t 39), (.t 9)]⟩,
                 ⟨(some 11), none, .mv (.t 40)⟩])
               (.ops [
                 ⟨(some 41), none, .mv (.t 0)⟩,
                 ⟨(some 42), none, .mv (.t 12)⟩,
                 ⟨(some 43), none, .call (.f slices_medianAdjacentOrdered_int_id) [(.t 41), (.t 42), (.t 9)]⟩,
                 ⟨(some 12), none, .mv (.t 43)⟩])))
             .skip))
           (.ops [
             ⟨(some 44), none, .mv (.t 0)⟩,
             ⟨(some 45), none, .mv (.t 10)⟩,
             ⟨(some 46), none, .mv (.t 11)⟩,
             ⟨(some 47), none, .mv (.t 12)⟩,
             ⟨(some 48), none, .call (.f slices_medianOrdered_int_id) [(.t 44), (.t 45), (.t 46), (.t 47), (.t 9)]⟩,
             ⟨(some 11), none, .mv (.t 48)⟩]))
          .skip))
        (.seq (some ([11, 49], [9]))
         (.ops [
           ⟨(some 49), none, .load false 1 (.t 9)⟩])
         (.block 0
          (.seq (some ([11, 49, 51], [9]))
           (.ops [
             ⟨(some 52), none, .bin .eql (.t 49) (.c (.int .i64 0))⟩,
             ⟨(some 51), none, .mv (.t 52)⟩])
           (.cond (.t 51)
            (.seq none
             (.ops [
               ⟨(some 53), none, .mv (.t 11)⟩,
               ⟨(some 6), none, .mv (.t 53)⟩,
               ⟨(some 7), none, .mv (.c (.int .i64 1))⟩])
             .ret)
            (.seq (some ([11, 54], [9]))
             (.ops [
               ⟨(some 55), none, .bin .eql (.t 49) (.c (.int .i64 12))⟩,
               ⟨(some 54), none, .mv (.t 55)⟩])
             (.cond (.t 54)
              (.seq none
               (.ops [
                 ⟨(some 56), none, .mv (.t 11)⟩,
                 ⟨(some 6), none, .mv (.t 56)⟩,
                 ⟨(some 7), none, .mv (.c (.int .i64 2))⟩])
               .ret)
              (.seq none
               (.ops [
                 ⟨(some 50), none, .mv (.t 11)⟩,
                 ⟨(some 6), none, .mv (.t 50)⟩,
                 ⟨(some 7), none, .mv (.c (.int .i64 0))⟩])
               .ret))))))))))))))⟩

def slices_reverseRangeOrdered_int_l0 : IR :=
 (.seq (some ([0, 6, 7], []))
  (.seq (some ([0, 6, 7, 13], []))
   (.ops [
     ⟨(some 11), none, .mv (.t 6)⟩,
     ⟨(some 12), none, .mv (.t 7)⟩,
     ⟨(some 13), none, .bin .lss (.t 11) (.t 12)⟩])
   (.cond (.t 13)
    .skip
    (.exit 0)))
  (.block 1
   (.seq (some ([0, 6, 7], []))
    (.draw [
      ⟨0, false, ⟨(some 14), none, .mv (.t 0)⟩⟩,
      ⟨1, false, ⟨(some 15), none, .mv (.t 6)⟩⟩,
      ⟨2, true, ⟨(some 16), none, .mv (.t 0)⟩⟩,
      ⟨3, true, ⟨(some 17), none, .mv (.t 7)⟩⟩,
      ⟨4, false, ⟨(some 18), none, .mv (.t 0)⟩⟩,
      ⟨5, false, ⟨(some 19), none, .mv (.t 7)⟩⟩,
      ⟨6, false, ⟨(some 20), none, .iaddr 1 (.t 18) (.t 19)⟩⟩,
      ⟨7, false, ⟨(some 21), none, .load false 1 (.t 20)⟩⟩,
      ⟨8, false, ⟨(some 22), none, .mv (.t 0)⟩⟩,
      ⟨9, false, ⟨(some 23), none, .mv (.t 6)⟩⟩,
      ⟨10, false, ⟨(some 24), none, .iaddr 1 (.t 22) (.t 23)⟩⟩,
      ⟨11, false, ⟨(some 25), none, .load false 1 (.t 24)⟩⟩,
      ⟨12, false, ⟨(some 26), none, .iaddr 1 (.t 14) (.t 15)⟩⟩,
      ⟨13, false, ⟨none, none, .store 1 (.t 26) (.t 21)⟩⟩,
      ⟨14, false, ⟨(some 27), none, .iaddr 1 (.t 16) (.t 17)⟩⟩,
      ⟨15, false, ⟨none, none, .store 1 (.t 27) (.t 25)⟩⟩])
    (.seq (some ([0, 6, 7], []))
     (.ops [
       ⟨(some 28), none, .mv (.t 6)⟩,
       ⟨(some 29), none, .bin .add (.t 28) (.c (.int .i64 1))⟩,
       ⟨(some 6), none, .mv (.t 29)⟩])
     (.ops [
       ⟨(some 30), none, .mv (.t 7)⟩,
       ⟨(some 31), none, .bin .sub (.t 30) (.c (.int .i64 1))⟩,
       ⟨(some 7), none, .mv (.t 31)⟩])))))
/-- slices.reverseRangeOrdered[int] -/
def slices_reverseRangeOrdered_int : FnIR := ⟨3, 32, [],
 (.seq (some ([0, 2, 6], []))
  (.ops [
    ⟨(some 8), none, .mv (.t 1)⟩,
    ⟨(some 6), none, .mv (.t 8)⟩])
  (.seq (some ([0, 6, 7], []))
   (.ops [
     ⟨(some 9), none, .mv (.t 2)⟩,
     ⟨(some 10), none, .bin .sub (.t 9) (.c (.int .i64 1))⟩,
     ⟨(some 7), none, .mv (.t 10)⟩])
   (.block 0
    (.loop slices_reverseRangeOrdered_int_l0))))⟩

def slices_partialInsertionSortOrdered_int_l0 : IR :=
 (.seq (some ([0, 1, 2, 7, 8], []))
  (.seq (some ([0, 1, 2, 7, 8, 32], []))
   (.ops [
     ⟨(some 17), none, .mv (.t 7)⟩,
     ⟨(some 18), none, .mv (.t 2)⟩,
     ⟨(some 19), none, .bin .lss (.t 17) (.t 18)⟩,
     ⟨(some 20), none, .mv (.t 19)⟩,
     ⟨(some 21), (some (20, true)), .mv (.t 0)⟩,
     ⟨(some 22), (some (20, true)), .mv (.t 7)⟩,
     ⟨(some 23), (some (20, true)), .iaddr 1 (.t 21) (.t 22)⟩,
     ⟨(some 24), (some (20, true)), .load false 1 (.t 23)⟩,
     ⟨(some 25), (some (20, true)), .mv (.t 0)⟩,
     ⟨(some 26), (some (20, true)), .mv (.t 7)⟩,
     ⟨(some 27), (some (20, true)), .bin .sub (.t 26) (.c (.int .i64 1))⟩,
     ⟨(some 28), (some (20, true)), .iaddr 1 (.t 25) (.t 27)⟩,
     ⟨(some 29), (some (20, true)), .load false 1 (.t 28)⟩,
     ⟨(some 30), (some (20, true)), .call (.f cmp_Less_int_id) [(.t 24), (.t 29)]⟩,
     ⟨(some 31), (some (20, true)), .un .not (.t 30)⟩,
     ⟨(some 32), none, .pick (.t 20) (.t 31) (.c (.bool false))⟩])
   (.cond (.t 32)
    .skip
    (.exit 2)))
  (.block 3
   (.ops [
     ⟨(some 33), none, .mv (.t 7)⟩,
     ⟨(some 34), none, .bin .add (.t 33) (.c (.int .i64 1))⟩,
     ⟨(some 7), none, .mv (.t 34)⟩])))
def slices_partialInsertionSortOrdered_int_l1 : IR :=
 (.seq (some ([0, 1, 2, 7, 8, 9], []))
  (.seq (some ([0, 1, 2, 7, 8, 9, 65], []))
   (.ops [
     ⟨(some 64), none, .mv (.t 9)⟩,
     ⟨(some 65), none, .bin .geq (.t 64) (.c (.int .i64 1))⟩])
   (.cond (.t 65)
    .skip
    (.exit 4)))
  (.seq (some ([0, 1, 2, 7, 8, 9], []))
   (.block 5
    (.seq (some ([0, 1, 2, 7, 8, 9], []))
     (.seq (some ([0, 1, 2, 7, 8, 9, 78], []))
      (.ops [
        ⟨(some 68), none, .mv (.t 0)⟩,
        ⟨(some 69), none, .mv (.t 9)⟩,
        ⟨(some 70), none, .iaddr 1 (.t 68) (.t 69)⟩,
        ⟨(some 71), none, .load false 1 (.t 70)⟩,
        ⟨(some 72), none, .mv (.t 0)⟩,
        ⟨(some 73), none, .mv (.t 9)⟩,
        ⟨(some 74), none, .bin .sub (.t 73) (.c (.int .i64 1))⟩,
        ⟨(some 75), none, .iaddr 1 (.t 72) (.t 74)⟩,
        ⟨(some 76), none, .load false 1 (.t 75)⟩,
        ⟨(some 77), none, .call (.f cmp_Less_int_id) [(.t 71), (.t 76)]⟩,
        ⟨(some 78), none, .un .not (.t 77)⟩])
      (.cond (.t 78)
       (.exit 4)
       .skip))
     (.draw [
       ⟨0, false, ⟨(some 79), none, .mv (.t 0)⟩⟩,
       ⟨1, false, ⟨(some 80), none, .mv (.t 9)⟩⟩,
       ⟨2, true, ⟨(some 81), none, .mv (.t 0)⟩⟩,
       ⟨3, true, ⟨(some 82), none, .mv (.t 9)⟩⟩,
       ⟨4, true, ⟨(some 83), none, .bin .sub (.t 82) (.c (.int .i64 1))⟩⟩,
       ⟨5, false, ⟨(some 84), none, .mv (.t 0)⟩⟩,
       ⟨6, false, ⟨(some 85), none, .mv (.t 9)⟩⟩,
       ⟨7, false, ⟨(some 86), none, .bin .sub (.t 85) (.c (.int .i64 1))⟩⟩,
       ⟨8, false, ⟨(some 87), none, .iaddr 1 (.t 84) (.t 86)⟩⟩,
       ⟨9, false, ⟨(some 88), none, .load false 1 (.t 87)⟩⟩,
       ⟨10, false, ⟨(some 89), none, .mv (.t 0)⟩⟩,
       ⟨11, false, ⟨(some 90), none, .mv (.t 9)⟩⟩,
       ⟨12, false, ⟨(some 91), none, .iaddr 1 (.t 89) (.t 90)⟩⟩,
       ⟨13, false, ⟨(some 92), none, .load false 1 (.t 91)⟩⟩,
       ⟨14, false, ⟨(some 93), none, .iaddr 1 (.t 79) (.t 80)⟩⟩,
       ⟨15, false, ⟨none, none, .store 1 (.t 93) (.t 88)⟩⟩,
       ⟨16, false, ⟨(some 94), none, .iaddr 1 (.t 81) (.t 83)⟩⟩,
       ⟨17, false, ⟨none, none, .store 1 (.t 94) (.t 92)⟩⟩])))
   (.ops [
     ⟨(some 66), none, .mv (.t 9)⟩,
     ⟨(some 67), none, .bin .sub (.t 66) (.c (.int .i64 1))⟩,
     ⟨(some 9), none, .mv (.t 67)⟩])))
def slices_partialInsertionSortOrdered_int_l2 : IR :=
 (.seq (some ([0, 1, 2, 7, 8, 10], []))
  (.seq (some ([0, 1, 2, 7, 8, 10, 103], []))
   (.ops [
     ⟨(some 101), none, .mv (.t 10)⟩,
     ⟨(some 102), none, .mv (.t 2)⟩,
     ⟨(some 103), none, .bin .lss (.t 101) (.t 102)⟩])
   (.cond (.t 103)
    .skip
    (.exit 6)))
  (.seq (some ([0, 1, 2, 7, 8, 10], []))
   (.block 7
    (.seq (some ([0, 1, 2, 7, 8, 10], []))
     (.seq (some ([0, 1, 2, 7, 8, 10, 116], []))
      (.ops [
        ⟨(some 106), none, .mv (.t 0)⟩,
        ⟨(some 107), none, .mv (.t 10)⟩,
        ⟨(some 108), none, .iaddr 1 (.t 106) (.t 107)⟩,
        ⟨(some 109), none, .load false 1 (.t 108)⟩,
        ⟨(some 110), none, .mv (.t 0)⟩,
        ⟨(some 111), none, .mv (.t 10)⟩,
        ⟨(some 112), none, .bin .sub (.t 111) (.c (.int .i64 1))⟩,
        ⟨(some 113), none, .iaddr 1 (.t 110) (.t 112)⟩,
        ⟨(some 114), none, .load false 1 (.t 113)⟩,
        ⟨(some 115), none, .call (.f cmp_Less_int_id) [(.t 109), (.t 114)]⟩,
        ⟨(some 116), none, .un .not (.t 115)⟩])
      (.cond (.t 116)
       (.exit 6)
       .skip))
     (.draw [
       ⟨0, false, ⟨(some 117), none, .mv (.t 0)⟩⟩,
       ⟨1, false, ⟨(some 118), none, .mv (.t 10)⟩⟩,
       ⟨2, true, ⟨(some 119), none, .mv (.t 0)⟩⟩,
       ⟨3, true, ⟨(some 120), none, .mv (.t 10)⟩⟩,
       ⟨4, true, ⟨(some 121), none, .bin .sub (.t 120) (.c (.int .i64 1))⟩⟩,
       ⟨5, false, ⟨(some 122), none, .mv (.t 0)⟩⟩,
       ⟨6, false, ⟨(some 123), none, .mv (.t 10)⟩⟩,
       ⟨7, false, ⟨(some 124), none, .bin .sub (.t 123) (.c (.int .i64 1))⟩⟩,
       ⟨8, false, ⟨(some 125), none, .iaddr 1 (.t 122) (.t 124)⟩⟩,
       ⟨9, false, ⟨(some 126), none, .load false 1 (.t 125)⟩⟩,
       ⟨10, false, ⟨(some 127), none, .mv (.t 0)⟩⟩,
       ⟨11, false, ⟨(some 128), none, .mv (.t 10)⟩⟩,
       ⟨12, false, ⟨(some 129), none, .iaddr 1 (.t 127) (.t 128)⟩⟩,
       ⟨13, false, ⟨(some 130), none, .load false 1 (.t 129)⟩⟩,
       ⟨14, false, ⟨(some 131), none, .iaddr 1 (.t 117) (.t 118)⟩⟩,
       ⟨15, false, ⟨none, none, .store 1 (.t 131) (.t 126)⟩⟩,
       ⟨16, false, ⟨(some 132), none, .iaddr 1 (.t 119) (.t 121)⟩⟩,
       ⟨17, false, ⟨none, none, .store 1 (.t 132) (.t 130)⟩⟩])))
   (.ops [
     ⟨(some 104), none, .mv (.t 10)⟩,
     ⟨(some 105), none, .bin .add (.t 104) (.c (.int .i64 1))⟩,
     ⟨(some 10), none, .mv (.t 105)⟩])))
def slices_partialInsertionSortOrdered_int_l3 : IR :=
 (.seq (some ([0, 1, 2, 7, 8], []))
  (.seq (some ([0, 1, 2, 7, 8, 14], []))
   (.ops [
     ⟨(some 13), none, .mv (.t 8)⟩,
     ⟨(some 14), none, .bin .lss (.t 13) (.c (.int .i64 5))⟩])
   (.cond (.t 14)
    .skip
    (.exit 0)))
  (.seq (some ([0, 1, 2, 7, 8], []))
   (.block 1
    (.seq (some ([0, 1, 2, 7, 8], []))
     (.block 2
      (.loop slices_partialInsertionSortOrdered_int_l0))
     (.seq (some ([0, 1, 2, 7, 8], []))
      (.seq (some ([0, 1, 2, 7, 8, 37], []))
       (.ops [
         ⟨(some 35), none, .mv (.t 7)⟩,
         ⟨(some 36), none, .mv (.t 2)⟩,
         ⟨(some 37), none, .bin .eql (.t 35) (.t 36)⟩])
       (.cond (.t 37)
        (.seq none
         (.ops [
           ⟨(some 6), none, .mv (.c (.bool true))⟩])
         .ret)
        .skip))
      (.seq (some ([0, 1, 2, 7, 8], []))
       (.seq (some ([0, 1, 2, 7, 8, 41], []))
        (.ops [
          ⟨(some 38), none, .mv (.t 2)⟩,
          ⟨(some 39), none, .mv (.t 1)⟩,
          ⟨(some 40), none, .bin .sub (.t 38) (.t 39)⟩,
          ⟨(some 41), none, .bin .lss (.t 40) (.c (.int .i64 50))⟩])
        (.cond (.t 41)
         (.seq none
          (.ops [
            ⟨(some 6), none, .mv (.c (.bool false))⟩])
          .ret)
         .skip))
       (.seq (some ([0, 1, 2, 7, 8], []))
        (.draw [
          ⟨0, false, ⟨(some 42), none, .mv (.t 0)⟩⟩,
          ⟨1, false, ⟨(some 43), none, .mv (.t 7)⟩⟩,
          ⟨2, true, ⟨(some 44), none, .mv (.t 0)⟩⟩,
          ⟨3, true, ⟨(some 45), none, .mv (.t 7)⟩⟩,
          ⟨4, true, ⟨(some 46), none, .bin .sub (.t 45) (.c (.int .i64 1))⟩⟩,
          ⟨5, false, ⟨(some 47), none, .mv (.t 0)⟩⟩,
          ⟨6, false, ⟨(some 48), none, .mv (.t 7)⟩⟩,
          ⟨7, false, ⟨(some 49), none, .bin .sub (.t 48) (.c (.int .i64 1))⟩⟩,
          ⟨8, false, ⟨(some 50), none, .iaddr 1 (.t 47) (.t 49)⟩⟩,
          ⟨9, false, ⟨(some 51), none, .load false 1 (.t 50)⟩⟩,
          ⟨10, false, ⟨(some 52), none, .mv (.t 0)⟩⟩,
          ⟨11, false, ⟨(some 53), none, .mv (.t 7)⟩⟩,
          ⟨12, false, ⟨(some 54), none, .iaddr 1 (.t 52) (.t 53)⟩⟩,
          ⟨13, false, ⟨(some 55), none, .load false 1 (.t 54)⟩⟩,
          ⟨14, false, ⟨(some 56), none, .iaddr 1 (.t 42) (.t 43)⟩⟩,
          ⟨15, false, ⟨none, none, .store 1 (.t 56) (.t 51)⟩⟩,
          ⟨16, false, ⟨(some 57), none, .iaddr 1 (.t 44) (.t 46)⟩⟩,
          ⟨17, false, ⟨none, none, .store 1 (.t 57) (.t 55)⟩⟩])
        (.seq (some ([0, 1, 2, 7, 8], []))
         (.seq (some ([0, 1, 2, 7, 8, 61], []))
          (.ops [
            ⟨(some 58), none, .mv (.t 7)⟩,
            ⟨(some 59), none, .mv (.t 1)⟩,
            ⟨(some 60), none, .bin .sub (.t 58) (.t 59)⟩,
            ⟨(some 61), none, .bin .geq (.t 60) (.c (.int .i64 2))⟩])
          (.cond (.t 61)
           (.seq (some ([0, 1, 2, 7, 8, 9], []))
            (.ops [
              ⟨(some 62), none, .mv (.t 7)⟩,
              ⟨(some 63), none, .bin .sub (.t 62) (.c (.int .i64 1))⟩,
              ⟨(some 9), none, .mv (.t 63)⟩])
            (.block 4
             (.loop slices_partialInsertionSortOrdered_int_l1)))
           .skip))
         (.seq (some ([0, 1, 2, 7, 8, 98], []))
          (.ops [
            ⟨(some 95), none, .mv (.t 2)⟩,
            ⟨(some 96), none, .mv (.t 7)⟩,
            ⟨(some 97), none, .bin .sub (.t 95) (.t 96)⟩,
            ⟨(some 98), none, .bin .geq (.t 97) (.c (.int .i64 2))⟩])
          (.cond (.t 98)
           (.seq (some ([0, 1, 2, 7, 8, 10], []))
            (.ops [
              ⟨(some 99), none, .mv (.t 7)⟩,
              ⟨(some 100), none, .bin .add (.t 99) (.c (.int .i64 1))⟩,
              ⟨(some 10), none, .mv (.t 100)⟩])
            (.block 6
             (.loop slices_partialInsertionSortOrdered_int_l2)))
           .skip))))))))
   (.ops [
     ⟨(some 15), none, .mv (.t 8)⟩,
     ⟨(some 16), none, .bin .add (.t 15) (.c (.int .i64 1))⟩,
     ⟨(some 8), none, .mv (.t 16)⟩])))
/-- slices.partialInsertionSortOrdered[int] -/
def slices_partialInsertionSortOrdered_int : FnIR := ⟨3, 133, [.t 6],
 (.seq (some ([0, 1, 2], []))
  (.ops [
    ⟨(some 6), none, .mv (.c (.bool false))⟩])
  (.seq (some ([0, 1, 2, 7], []))
   (.ops [
     ⟨(some 11), none, .mv (.t 1)⟩,
     ⟨(some 12), none, .bin .add (.t 11) (.c (.int .i64 1))⟩,
     ⟨(some 7), none, .mv (.t 12)⟩])
   (.seq (some ([], []))
    (.seq (some ([0, 1, 2, 7, 8], []))
     (.ops [
       ⟨(some 8), none, .mv (.c (.int .i64 0))⟩])
     (.block 0
      (.loop slices_partialInsertionSortOrdered_int_l3)))
    (.seq none
     (.ops [
       ⟨(some 6), none, .mv (.c (.bool false))⟩])
     .ret))))⟩

/-- cmp.Less[int] -/
def cmp_Less_int : FnIR := ⟨2, 17, [.t 4],
 (.seq (some ([0, 1], []))
  (.ops [
    ⟨(some 4), none, .mv (.c (.bool false))⟩])
  (.seq none
   (.ops [
     ⟨(some 5), none, .mv (.t 0)⟩,
     ⟨(some 6), none, .call (.f cmp_isNaN_int_id) [(.t 5)]⟩,
     ⟨(some 7), none, .mv (.t 6)⟩,
     ⟨(some 8), (some (7, true)), .mv (.t 1)⟩,
     ⟨(some 9), (some (7, true)), .call (.f cmp_isNaN_int_id) [(.t 8)]⟩,
     ⟨(some 10), (some (7, true)), .un .not (.t 9)⟩,
     ⟨(some 11), none, .pick (.t 7) (.t 10) (.c (.bool false))⟩,
     ⟨(some 12), none, .mv (.t 11)⟩,
     ⟨(some 13), (some (12, false)), .mv (.t 0)⟩,
     ⟨(some 14), (some (12, false)), .mv (.t 1)⟩,
     ⟨(some 15), (some (12, false)), .bin .lss (.t 13) (.t 14)⟩,
     ⟨(some 16), none, .pick (.t 12) (.c (.bool true)) (.t 15)⟩,
     ⟨(some 4), none, .mv (.t 16)⟩])
   .ret))⟩

def slices_partitionEqualOrdered_int_l0 : IR :=
 (.seq (some ([0, 1, 9, 10], []))
  (.seq (some ([0, 1, 9, 10, 43], []))
   (.ops [
     ⟨(some 29), none, .mv (.t 9)⟩,
     ⟨(some 30), none, .mv (.t 10)⟩,
     ⟨(some 31), none, .bin .leq (.t 29) (.t 30)⟩,
     ⟨(some 32), none, .mv (.t 31)⟩,
     ⟨(some 33), (some (32, true)), .mv (.t 0)⟩,
     ⟨(some 34), (some (32, true)), .mv (.t 1)⟩,
     ⟨(some 35), (some (32, true)), .iaddr 1 (.t 33) (.t 34)⟩,
     ⟨(some 36), (some (32, true)), .load false 1 (.t 35)⟩,
     ⟨(some 37), (some (32, true)), .mv (.t 0)⟩,
     ⟨(some 38), (some (32, true)), .mv (.t 9)⟩,
     ⟨(some 39), (some (32, true)), .iaddr 1 (.t 37) (.t 38)⟩,
     ⟨(some 40), (some (32, true)), .load false 1 (.t 39)⟩,
     ⟨(some 41), (some (32, true)), .call (.f cmp_Less_int_id) [(.t 36), (.t 40)]⟩,
     ⟨(some 42), (some (32, true)), .un .not (.t 41)⟩,
     ⟨(some 43), none, .pick (.t 32) (.t 42) (.c (.bool false))⟩])
   (.cond (.t 43)
    .skip
    (.exit 2)))
  (.block 3
   (.ops [
     ⟨(some 44), none, .mv (.t 9)⟩,
     ⟨(some 45), none, .bin .add (.t 44) (.c (.int .i64 1))⟩,
     ⟨(some 9), none, .mv (.t 45)⟩])))
def slices_partitionEqualOrdered_int_l1 : IR :=
 (.seq (some ([0, 1, 9, 10], []))
  (.seq (some ([0, 1, 9, 10, 59], []))
   (.ops [
     ⟨(some 46), none, .mv (.t 9)⟩,
     ⟨(some 47), none, .mv (.t 10)⟩,
     ⟨(some 48), none, .bin .leq (.t 46) (.t 47)⟩,
     ⟨(some 49), none, .mv (.t 48)⟩,
     ⟨(some 50), (some (49, true)), .mv (.t 0)⟩,
     ⟨(some 51), (some (49, true)), .mv (.t 1)⟩,
     ⟨(some 52), (some (49, true)), .iaddr 1 (.t 50) (.t 51)⟩,
     ⟨(some 53), (some (49, true)), .load false 1 (.t 52)⟩,
     ⟨(some 54), (some (49, true)), .mv (.t 0)⟩,
     ⟨(some 55), (some (49, true)), .mv (.t 10)⟩,
     ⟨(some 56), (some (49, true)), .iaddr 1 (.t 54) (.t 55)⟩,
     ⟨(some 57), (some (49, true)), .load false 1 (.t 56)⟩,
     ⟨(some 58), (some (49, true)), .call (.f cmp_Less_int_id) [(.t 53), (.t 57)]⟩,
     ⟨(some 59), none, .pick (.t 49) (.t 58) (.c (.bool false))⟩])
   (.cond (.t 59)
    .skip
    (.exit 4)))
  (.block 5
   (.ops [
     ⟨(some 60), none, .mv (.t 10)⟩,
     ⟨(some 61), none, .bin .sub (.t 60) (.c (.int .i64 1))⟩,
     ⟨(some 10), none, .mv (.t 61)⟩])))
def slices_partitionEqualOrdered_int_l2 : IR :=
 (.block 1
  (.seq (some ([0, 1, 9, 10], []))
   (.block 2
    (.loop slices_partitionEqualOrdered_int_l0))
   (.seq (some ([0, 1, 9, 10], []))
    (.block 4
     (.loop slices_partitionEqualOrdered_int_l1))
    (.seq (some ([0, 1, 9, 10], []))
     (.seq (some ([0, 1, 9, 10, 64], []))
      (.ops [
        ⟨(some 62), none, .mv (.t 9)⟩,
        ⟨(some 63), none, .mv (.t 10)⟩,
        ⟨(some 64), none, .bin .gtr (.t 62) (.t 63)⟩])
      (.cond (.t 64)
       (.exit 0)
       .skip))
     (.seq (some ([0, 1, 9, 10], []))
      (.draw [
        ⟨0, false, ⟨(some 65), none, .mv (.t 0)⟩⟩,
        ⟨1, false, ⟨(some 66), none, .mv (.t 9)⟩⟩,
        ⟨2, true, ⟨(some 67), none, .mv (.t 0)⟩⟩,
        ⟨3, true, ⟨(some 68), none, .mv (.t 10)⟩⟩,
        ⟨4, false, ⟨(some 69), none, .mv (.t 0)⟩⟩,
        ⟨5, false, ⟨(some 70), none, .mv (.t 10)⟩⟩,
        ⟨6, false, ⟨(some 71), none, .iaddr 1 (.t 69) (.t 70)⟩⟩,
        ⟨7, false, ⟨(some 72), none, .load false 1 (.t 71)⟩⟩,
        ⟨8, false, ⟨(some 73), none, .mv (.t 0)⟩⟩,
        ⟨9, false, ⟨(some 74), none, .mv (.t 9)⟩⟩,
        ⟨10, false, ⟨(some 75), none, .iaddr 1 (.t 73) (.t 74)⟩⟩,
        ⟨11, false, ⟨(some 76), none, .load false 1 (.t 75)⟩⟩,
        ⟨12, false, ⟨(some 77), none, .iaddr 1 (.t 65) (.t 66)⟩⟩,
        ⟨13, false, ⟨none, none, .store 1 (.t 77) (.t 72)⟩⟩,
        ⟨14, false, ⟨(some 78), none, .iaddr 1 (.t 67) (.t 68)⟩⟩,
        ⟨15, false, ⟨none, none, .store 1 (.t 78) (.t 76)⟩⟩])
      (.seq (some ([0, 1, 9, 10], []))
       (.ops [
         ⟨(some 79), none, .mv (.t 9)⟩,
         ⟨(some 80), none, .bin .add (.t 79) (.c (.int .i64 1))⟩,
         ⟨(some 9), none, .mv (.t 80)⟩])
       (.ops [
         ⟨(some 81), none, .mv (.t 10)⟩,
         ⟨(some 82), none, .bin .sub (.t 81) (.c (.int .i64 1))⟩,
         ⟨(some 10), none, .mv (.t 82)⟩])))))))
/-- slices.partitionEqualOrdered[int] -/
def slices_partitionEqualOrdered_int : FnIR := ⟨4, 84, [.t 8],
 (.seq (some ([0, 1, 2, 3], []))
  (.ops [
    ⟨(some 8), none, .mv (.c (.int .i64 0))⟩])
  (.seq (some ([0, 1, 2], []))
   (.draw [
     ⟨0, false, ⟨(some 11), none, .mv (.t 0)⟩⟩,
     ⟨1, false, ⟨(some 12), none, .mv (.t 1)⟩⟩,
     ⟨2, true, ⟨(some 13), none, .mv (.t 0)⟩⟩,
     ⟨3, true, ⟨(some 14), none, .mv (.t 3)⟩⟩,
     ⟨4, false, ⟨(some 15), none, .mv (.t 0)⟩⟩,
     ⟨5, false, ⟨(some 16), none, .mv (.t 3)⟩⟩,
     ⟨6, false, ⟨(some 17), none, .iaddr 1 (.t 15) (.t 16)⟩⟩,
     ⟨7, false, ⟨(some 18), none, .load false 1 (.t 17)⟩⟩,
     ⟨8, false, ⟨(some 19), none, .mv (.t 0)⟩⟩,
     ⟨9, false, ⟨(some 20), none, .mv (.t 1)⟩⟩,
     ⟨10, false, ⟨(some 21), none, .iaddr 1 (.t 19) (.t 20)⟩⟩,
     ⟨11, false, ⟨(some 22), none, .load false 1 (.t 21)⟩⟩,
     ⟨12, false, ⟨(some 23), none, .iaddr 1 (.t 11) (.t 12)⟩⟩,
     ⟨13, false, ⟨none, none, .store 1 (.t 23) (.t 18)⟩⟩,
     ⟨14, false, ⟨(some 24), none, .iaddr 1 (.t 13) (.t 14)⟩⟩,
     ⟨15, false, ⟨none, none, .store 1 (.t 24) (.t 22)⟩⟩])
   (.seq (some ([0, 1, 9, 10], []))
    (.ops [
      ⟨(some 25), none, .mv (.t 1)⟩,
      ⟨(some 26), none, .bin .add (.t 25) (.c (.int .i64 1))⟩,
      ⟨(some 27), none, .mv (.t 2)⟩,
      ⟨(some 28), none, .bin .sub (.t 27) (.c (.int .i64 1))⟩,
      ⟨(some 9), none, .mv (.t 26)⟩,
      ⟨(some 10), none, .mv (.t 28)⟩])
    (.seq (some ([9], []))
     (.block 0
      (.loop slices_partitionEqualOrdered_int_l2))
     (.seq none
      (.ops [
        ⟨(some 83), none, .mv (.t 9)⟩,
        ⟨(some 8), none, .mv (.t 83)⟩])
      .ret)))))⟩

def slices_partitionOrdered_int_l0 : IR :=
 (.seq (some ([0, 1, 10, 11], []))
  (.seq (some ([0, 1, 10, 11, 43], []))
   (.ops [
     ⟨(some 30), none, .mv (.t 10)⟩,
     ⟨(some 31), none, .mv (.t 11)⟩,
     ⟨(some 32), none, .bin .leq (.t 30) (.t 31)⟩,
     ⟨(some 33), none, .mv (.t 32)⟩,
     ⟨(some 34), (some (33, true)), .mv (.t 0)⟩,
     ⟨(some 35), (some (33, true)), .mv (.t 10)⟩,
     ⟨(some 36), (some (33, true)), .iaddr 1 (.t 34) (.t 35)⟩,
     ⟨(some 37), (some (33, true)), .load false 1 (.t 36)⟩,
     ⟨(some 38), (some (33, true)), .mv (.t 0)⟩,
     ⟨(some 39), (some (33, true)), .mv (.t 1)⟩,
     ⟨(some 40), (some (33, true)), .iaddr 1 (.t 38) (.t 39)⟩,
     ⟨(some 41), (some (33, true)), .load false 1 (.t 40)⟩,
     ⟨(some 42), (some (33, true)), .call (.f cmp_Less_int_id) [(.t 37), (.t 41)]⟩,
     ⟨(some 43), none, .pick (.t 33) (.t 42) (.c (.bool false))⟩])
   (.cond (.t 43)
    .skip
    (.exit 0)))
  (.block 1
   (.ops [
     ⟨(some 44), none, .mv (.t 10)⟩,
     ⟨(some 45), none, .bin .add (.t 44) (.c (.int .i64 1))⟩,
     ⟨(some 10), none, .mv (.t 45)⟩])))
def slices_partitionOrdered_int_l1 : IR :=
 (.seq (some ([0, 1, 10, 11], []))
  (.seq (some ([0, 1, 10, 11, 60], []))
   (.ops [
     ⟨(some 46), none, .mv (.t 10)⟩,
     ⟨(some 47), none, .mv (.t 11)⟩,
     ⟨(some 48), none, .bin .leq (.t 46) (.t 47)⟩,
     ⟨(some 49), none, .mv (.t 48)⟩,
     ⟨(some 50), (some (49, true)), .mv (.t 0)⟩,
     ⟨(some 51), (some (49, true)), .mv (.t 11)⟩,
     ⟨(some 52), (some (49, true)), .iaddr 1 (.t 50) (.t 51)⟩,
     ⟨(some 53), (some (49, true)), .load false 1 (.t 52)⟩,
     ⟨(some 54), (some (49, true)), .mv (.t 0)⟩,
     ⟨(some 55), (some (49, true)), .mv (.t 1)⟩,
     ⟨(some 56), (some (49, true)), .iaddr 1 (.t 54) (.t 55)⟩,
     ⟨(some 57), (some (49, true)), .load false 1 (.t 56)⟩,
     ⟨(some 58), (some (49, true)), .call (.f cmp_Less_int_id) [(.t 53), (.t 57)]⟩,
     ⟨(some 59), (some (49, true)), .un .not (.t 58)⟩,
     ⟨(some 60), none, .pick (.t 49) (.t 59) (.c (.bool false))⟩])
   (.cond (.t 60)
    .skip
    (.exit 2)))
  (.block 3
   (.ops [
     ⟨(some 61), none, .mv (.t 11)⟩,
     ⟨(some 62), none, .bin .sub (.t 61) (.c (.int .i64 1))⟩,
     ⟨(some 11), none, .mv (.t 62)⟩])))
def slices_partitionOrdered_int_l2 : IR :=
 (.seq (some ([0, 1, 10, 11], []))
  (.seq (some ([0, 1, 10, 11, 112], []))
   (.ops [
     ⟨(some 99), none, .mv (.t 10)⟩,
     ⟨(some 100), none, .mv (.t 11)⟩,
     ⟨(some 101), none, .bin .leq (.t 99) (.t 100)⟩,
     ⟨(some 102), none, .mv (.t 101)⟩,
     ⟨(some 103), (some (102, true)), .mv (.t 0)⟩,
     ⟨(some 104), (some (102, true)), .mv (.t 10)⟩,
     ⟨(some 105), (some (102, true)), .iaddr 1 (.t 103) (.t 104)⟩,
     ⟨(some 106), (some (102, true)), .load false 1 (.t 105)⟩,
     ⟨(some 107), (some (102, true)), .mv (.t 0)⟩,
     ⟨(some 108), (some (102, true)), .mv (.t 1)⟩,
     ⟨(some 109), (some (102, true)), .iaddr 1 (.t 107) (.t 108)⟩,
     ⟨(some 110), (some (102, true)), .load false 1 (.t 109)⟩,
     ⟨(some 111), (some (102, true)), .call (.f cmp_Less_int_id) [(.t 106), (.t 110)]⟩,
     ⟨(some 112), none, .pick (.t 102) (.t 111) (.c (.bool false))⟩])
   (.cond (.t 112)
    .skip
    (.exit 6)))
  (.block 7
   (.ops [
     ⟨(some 113), none, .mv (.t 10)⟩,
     ⟨(some 114), none, .bin .add (.t 113) (.c (.int .i64 1))⟩,
     ⟨(some 10), none, .mv (.t 114)⟩])))
def slices_partitionOrdered_int_l3 : IR :=
 (.seq (some ([0, 1, 10, 11], []))
  (.seq (some ([0, 1, 10, 11, 129], []))
   (.ops [
     ⟨(some 115), none, .mv (.t 10)⟩,
     ⟨(some 116), none, .mv (.t 11)⟩,
     ⟨(some 117), none, .bin .leq (.t 115) (.t 116)⟩,
     ⟨(some 118), none, .mv (.t 117)⟩,
     ⟨(some 119), (some (118, true)), .mv (.t 0)⟩,
     ⟨(some 120), (some (118, true)), .mv (.t 11)⟩,
     ⟨(some 121), (some (118, true)), .iaddr 1 (.t 119) (.t 120)⟩,
     ⟨(some 122), (some (118, true)), .load false 1 (.t 121)⟩,
     ⟨(some 123), (some (118, true)), .mv (.t 0)⟩,
     ⟨(some 124), (some (118, true)), .mv (.t 1)⟩,
     ⟨(some 125), (some (118, true)), .iaddr 1 (.t 123) (.t 124)⟩,
     ⟨(some 126), (some (118, true)), .load false 1 (.t 125)⟩,
     ⟨(some 127), (some (118, true)), .call (.f cmp_Less_int_id) [(.t 122), (.t 126)]⟩,
     ⟨(some 128), (some (118, true)), .un .not (.t 127)⟩,
     ⟨(some 129), none, .pick (.t 118) (.t 128) (.c (.bool false))⟩])
   (.cond (.t 129)
    .skip
    (.exit 8)))
  (.block 9
   (.ops [
     ⟨(some 130), none, .mv (.t 11)⟩,
     ⟨(some 131), none, .bin .sub (.t 130) (.c (.int .i64 1))⟩,
     ⟨(some 11), none, .mv (.t 131)⟩])))
def slices_partitionOrdered_int_l4 : IR :=
 (.block 5
  (.seq (some ([0, 1, 10, 11], []))
   (.block 6
    (.loop slices_partitionOrdered_int_l2))
   (.seq (some ([0, 1, 10, 11], []))
    (.block 8
     (.loop slices_partitionOrdered_int_l3))
    (.seq (some ([0, 1, 10, 11], []))
     (.seq (some ([0, 1, 10, 11, 134], []))
      (.ops [
        ⟨(some 132), none, .mv (.t 10)⟩,
        ⟨(some 133), none, .mv (.t 11)⟩,
        ⟨(some 134), none, .bin .gtr (.t 132) (.t 133)⟩])
      (.cond (.t 134)
       (.exit 4)
       .skip))
     (.seq (some ([0, 1, 10, 11], []))
      (.draw [
        ⟨0, false, ⟨(some 135), none, .mv (.t 0)⟩⟩,
        ⟨1, false, ⟨(some 136), none, .mv (.t 10)⟩⟩,
        ⟨2, true, ⟨(some 137), none, .mv (.t 0)⟩⟩,
        ⟨3, true, ⟨(some 138), none, .mv (.t 11)⟩⟩,
        ⟨4, false, ⟨(some 139), none, .mv (.t 0)⟩⟩,
        ⟨5, false, ⟨(some 140), none, .mv (.t 11)⟩⟩,
        ⟨6, false, ⟨(some 141), none, .iaddr 1 (.t 139) (.t 140)⟩⟩,
        ⟨7, false, ⟨(some 142), none, .load false 1 (.t 141)⟩⟩,
        ⟨8, false, ⟨(some 143), none, .mv (.t 0)⟩⟩,
        ⟨9, false, ⟨(some 144), none, .mv (.t 10)⟩⟩,
        ⟨10, false, ⟨(some 145), none, .iaddr 1 (.t 143) (.t 144)⟩⟩,
        ⟨11, false, ⟨(some 146), none, .load false 1 (.t 145)⟩⟩,
        ⟨12, false, ⟨(some 147), none, .iaddr 1 (.t 135) (.t 136)⟩⟩,
        ⟨13, false, ⟨none, none, .store 1 (.t 147) (.t 142)⟩⟩,
        ⟨14, false, ⟨(some 148), none, .iaddr 1 (.t 137) (.t 138)⟩⟩,
        ⟨15, false, ⟨none, none, .store 1 (.t 148) (.t 146)⟩⟩])
      (.seq (some ([0, 1, 10, 11], []))
       (.ops [
         ⟨(some 149), none, .mv (.t 10)⟩,
         ⟨(some 150), none, .bin .add (.t 149) (.c (.int .i64 1))⟩,
         ⟨(some 10), none, .mv (.t 150)⟩])
       (.ops [
         ⟨(some 151), none, .mv (.t 11)⟩,
         ⟨(some 152), none, .bin .sub (.t 151) (.c (.int .i64 1))⟩,
         ⟨(some 11), none, .mv (.t 152)⟩])))))))
/-- slices.partitionOrdered[int] -/
def slices_partitionOrdered_int : FnIR := ⟨4, 168, [.t 8, .t 9],
 (.seq (some ([0, 1, 2, 3], []))
  (.ops [
    ⟨(some 8), none, .mv (.c (.int .i64 0))⟩,
    ⟨(some 9), none, .mv (.c (.bool false))⟩])
  (.seq (some ([0, 1, 2], []))
   (.draw [
     ⟨0, false, ⟨(some 12), none, .mv (.t 0)⟩⟩,
     ⟨1, false, ⟨(some 13), none, .mv (.t 1)⟩⟩,
     ⟨2, true, ⟨(some 14), none, .mv (.t 0)⟩⟩,
     ⟨3, true, ⟨(some 15), none, .mv (.t 3)⟩⟩,
     ⟨4, false, ⟨(some 16), none, .mv (.t 0)⟩⟩,
     ⟨5, false, ⟨(some 17), none, .mv (.t 3)⟩⟩,
     ⟨6, false, ⟨(some 18), none, .iaddr 1 (.t 16) (.t 17)⟩⟩,
     ⟨7, false, ⟨(some 19), none, .load false 1 (.t 18)⟩⟩,
     ⟨8, false, ⟨(some 20), none, .mv (.t 0)⟩⟩,
     ⟨9, false, ⟨(some 21), none, .mv (.t 1)⟩⟩,
     ⟨10, false, ⟨(some 22), none, .iaddr 1 (.t 20) (.t 21)⟩⟩,
     ⟨11, false, ⟨(some 23), none, .load false 1 (.t 22)⟩⟩,
     ⟨12, false, ⟨(some 24), none, .iaddr 1 (.t 12) (.t 13)⟩⟩,
     ⟨13, false, ⟨none, none, .store 1 (.t 24) (.t 19)⟩⟩,
     ⟨14, false, ⟨(some 25), none, .iaddr 1 (.t 14) (.t 15)⟩⟩,
     ⟨15, false, ⟨none, none, .store 1 (.t 25) (.t 23)⟩⟩])
   (.seq (some ([0, 1, 10, 11], []))
    (.ops [
      ⟨(some 26), none, .mv (.t 1)⟩,
      ⟨(some 27), none, .bin .add (.t 26) (.c (.int .i64 1))⟩,
      ⟨(some 28), none, .mv (.t 2)⟩,
      ⟨(some 29), none, .bin .sub (.t 28) (.c (.int .i64 1))⟩,
      ⟨(some 10), none, .mv (.t 27)⟩,
      ⟨(some 11), none, .mv (.t 29)⟩])
    (.seq (some ([0, 1, 10, 11], []))
     (.block 0
      (.loop slices_partitionOrdered_int_l0))
     (.seq (some ([0, 1, 10, 11], []))
      (.block 2
       (.loop slices_partitionOrdered_int_l1))
      (.seq (some ([0, 1, 10, 11], []))
       (.seq (some ([0, 1, 10, 11, 65], []))
        (.ops [
          ⟨(some 63), none, .mv (.t 10)⟩,
          ⟨(some 64), none, .mv (.t 11)⟩,
          ⟨(some 65), none, .bin .gtr (.t 63) (.t 64)⟩])
        (.cond (.t 65)
         (.seq (some ([11], []))
          (.draw [
            ⟨0, false, ⟨(some 66), none, .mv (.t 0)⟩⟩,
            ⟨1, false, ⟨(some 67), none, .mv (.t 11)⟩⟩,
            ⟨2, true, ⟨(some 68), none, .mv (.t 0)⟩⟩,
            ⟨3, true, ⟨(some 69), none, .mv (.t 1)⟩⟩,
            ⟨4, false, ⟨(some 70), none, .mv (.t 0)⟩⟩,
            ⟨5, false, ⟨(some 71), none, .mv (.t 1)⟩⟩,
            ⟨6, false, ⟨(some 72), none, .iaddr 1 (.t 70) (.t 71)⟩⟩,
            ⟨7, false, ⟨(some 73), none, .load false 1 (.t 72)⟩⟩,
            ⟨8, false, ⟨(some 74), none, .mv (.t 0)⟩⟩,
            ⟨9, false, ⟨(some 75), none, .mv (.t 11)⟩⟩,
            ⟨10, false, ⟨(some 76), none, .iaddr 1 (.t 74) (.t 75)⟩⟩,
            ⟨11, false, ⟨(some 77), none, .load false 1 (.t 76)⟩⟩,
            ⟨12, false, ⟨(some 78), none, .iaddr 1 (.t 66) (.t 67)⟩⟩,
            ⟨13, false, ⟨none, none, .store 1 (.t 78) (.t 73)⟩⟩,
            ⟨14, false, ⟨(some 79), none, .iaddr 1 (.t 68) (.t 69)⟩⟩,
            ⟨15, false, ⟨none, none, .store 1 (.t 79) (.t 77)⟩⟩])
          (.seq none
           (.ops [
             ⟨(some 80), none, .mv (.t 11)⟩,
             ⟨(some 8), none, .mv (.t 80)⟩,
             ⟨(some 9), none, .mv (.c (.bool true))⟩])
           .ret))
         .skip))
       (.seq (some ([0, 1, 10, 11], []))
        (.draw [
          ⟨0, false, ⟨(some 81), none, .mv (.t 0)⟩⟩,
          ⟨1, false, ⟨(some 82), none, .mv (.t 10)⟩⟩,
          ⟨2, true, ⟨(some 83), none, .mv (.t 0)⟩⟩,
          ⟨3, true, ⟨(some 84), none, .mv (.t 11)⟩⟩,
          ⟨4, false, ⟨(some 85), none, .mv (.t 0)⟩⟩,
          ⟨5, false, ⟨(some 86), none, .mv (.t 11)⟩⟩,
          ⟨6, false, ⟨(some 87), none, .iaddr 1 (.t 85) (.t 86)⟩⟩,
          ⟨7, false, ⟨(some 88), none, .load false 1 (.t 87)⟩⟩,
          ⟨8, false, ⟨(some 89), none, .mv (.t 0)⟩⟩,
          ⟨9, false, ⟨(some 90), none, .mv (.t 10)⟩⟩,
          ⟨10, false, ⟨(some 91), none, .iaddr 1 (.t 89) (.t 90)⟩⟩,
          ⟨11, false, ⟨(some 92), none, .load false 1 (.t 91)⟩⟩,
          ⟨12, false, ⟨(some 93), none, .iaddr 1 (.t 81) (.t 82)⟩⟩,
          ⟨13, false, ⟨none, none, .store 1 (.t 93) (.t 88)⟩⟩,
          ⟨14, false, ⟨(some 94), none, .iaddr 1 (.t 83) (.t 84)⟩⟩,
          ⟨15, false, ⟨none, none, .store 1 (.t 94) (.t 92)⟩⟩])
        (.seq (some ([0, 1, 10, 11], []))
         (.ops [
           ⟨(some 95), none, .mv (.t 10)⟩,
           ⟨(some 96), none, .bin .add (.t 95) (.c (.int .i64 1))⟩,
           ⟨(some 10), none, .mv (.t 96)⟩])
         (.seq (some ([0, 1, 10, 11], []))
          (.ops [
            ⟨(some 97), none, .mv (.t 11)⟩,
            ⟨(some 98), none, .bin .sub (.t 97) (.c (.int .i64 1))⟩,
            ⟨(some 11), none, .mv (.t 98)⟩])
          (.seq (some ([0, 1, 11], []))
           (.block 4
            (.loop slices_partitionOrdered_int_l4))
           (.seq (some ([11], []))
            (.draw [
              ⟨0, false, ⟨(some 153), none, .mv (.t 0)⟩⟩,
              ⟨1, false, ⟨(some 154), none, .mv (.t 11)⟩⟩,
              ⟨2, true, ⟨(some 155), none, .mv (.t 0)⟩⟩,
              ⟨3, true, ⟨(some 156), none, .mv (.t 1)⟩⟩,
              ⟨4, false, ⟨(some 157), none, .mv (.t 0)⟩⟩,
              ⟨5, false, ⟨(some 158), none, .mv (.t 1)⟩⟩,
              ⟨6, false, ⟨(some 159), none, .iaddr 1 (.t 157) (.t 158)⟩⟩,
              ⟨7, false, ⟨(some 160), none, .load false 1 (.t 159)⟩⟩,
              ⟨8, false, ⟨(some 161), none, .mv (.t 0)⟩⟩,
              ⟨9, false, ⟨(some 162), none, .mv (.t 11)⟩⟩,
              ⟨10, false, ⟨(some 163), none, .iaddr 1 (.t 161) (.t 162)⟩⟩,
              ⟨11, false, ⟨(some 164), none, .load false 1 (.t 163)⟩⟩,
              ⟨12, false, ⟨(some 165), none, .iaddr 1 (.t 153) (.t 154)⟩⟩,
              ⟨13, false, ⟨none, none, .store 1 (.t 165) (.t 160)⟩⟩,
              ⟨14, false, ⟨(some 166), none, .iaddr 1 (.t 155) (.t 156)⟩⟩,
              ⟨15, false, ⟨none, none, .store 1 (.t 166) (.t 164)⟩⟩])
            (.seq none
             (.ops [
               ⟨(some 167), none, .mv (.t 11)⟩,
               ⟨(some 8), none, .mv (.t 167)⟩,
               ⟨(some 9), none, .mv (.c (.bool false))⟩])
             .ret))))))))))))⟩

/-- math/bits.Len32 -/
def math_bits_Len32 : FnIR := ⟨1, 19, [.t 2],
 (.seq (some ([0, 2], []))
  (.ops [
    ⟨(some 2), none, .mv (.c (.int .i64 0))⟩])
  (.seq (some ([0, 2], []))
   (.seq (some ([0, 2, 4], []))
    (.ops [
      ⟨(some 3), none, .mv (.t 0)⟩,
      ⟨(some 4), none, .bin .geq (.t 3) (.c (.int .u32 65536))⟩])
    (.cond (.t 4)
     (.seq (some ([0], []))
      (.ops [
        ⟨(some 5), none, .mv (.t 0)⟩,
        ⟨(some 6), none, .bin .shr (.t 5) (.c (.int .u64 16))⟩,
        ⟨(some 0), none, .mv (.t 6)⟩])
      (.ops [
        ⟨(some 2), none, .mv (.c (.int .i64 16))⟩]))
     .skip))
   (.seq (some ([0, 2], []))
    (.seq (some ([0, 2, 8], []))
     (.ops [
       ⟨(some 7), none, .mv (.t 0)⟩,
       ⟨(some 8), none, .bin .geq (.t 7) (.c (.int .u32 256))⟩])
     (.cond (.t 8)
      (.seq (some ([0, 2], []))
       (.ops [
         ⟨(some 9), none, .mv (.t 0)⟩,
         ⟨(some 10), none, .bin .shr (.t 9) (.c (.int .u64 8))⟩,
         ⟨(some 0), none, .mv (.t 10)⟩])
       (.ops [
         ⟨(some 11), none, .mv (.t 2)⟩,
         ⟨(some 12), none, .bin .add (.t 11) (.c (.int .i64 8))⟩,
         ⟨(some 2), none, .mv (.t 12)⟩]))
      .skip))
    (.seq none
     (.ops [
       ⟨(some 13), none, .mv (.t 2)⟩,
       ⟨(some 14), none, .mv (.t 0)⟩,
       ⟨(some 15), none, .convi .u8 (.t 14)⟩,
       ⟨(some 16), none, .idxs (.c (.str ⟨#[0, 1, 2, 2, 3, 3, 3, 3, 4, 4, 4, 4, 4, 4, 4, 4, 5, 5, 5, 5, 5, 5, 5, 5, 5, 5, 5, 5, 5, 5, 5, 5, 6, 6, 6, 6, 6, 6, 6, 6, 6, 6, 6, 6, 6, 6, 6, 6, 6, 6, 6, 6, 6, 6, 6, 6, 6, 6, 6, 6, 6, 6, 6, 6, 7, 7, 7, 7, 7, 7, 7, 7, 7, 7, 7, 7, 7, 7, 7, 7, 7, 7, 7, 7, 7, 7, 7, 7, 7, 7, 7, 7, 7, 7, 7, 7, 7, 7, 7, 7, 7, 7, 7, 7, 7, 7, 7, 7, 7, 7, 7, 7, 7, 7, 7, 7, 7, 7, 7, 7, 7, 7, 7, 7, 7, 7, 7, 7, 8, 8, 8, 8, 8, 8, 8, 8, 8, 8, 8, 8, 8, 8, 8, 8, 8, 8, 8, 8, 8, 8, 8, 8, 8, 8, 8, 8, 8, 8, 8, 8, 8, 8, 8, 8, 8, 8, 8, 8, 8, 8, 8, 8, 8, 8, 8, 8, 8, 8, 8, 8, 8, 8, 8, 8, 8, 8, 8, 8, 8, 8, 8, 8, 8, 8, 8, 8, 8, 8, 8, 8, 8, 8, 8, 8, 8, 8, 8, 8, 8, 8, 8, 8, 8, 8, 8, 8, 8, 8, 8, 8, 8, 8, 8, 8, 8, 8, 8, 8, 8, 8, 8, 8, 8, 8, 8, 8, 8, 8, 8, 8, 8, 8, 8, 8, 8, 8, 8, 8, 8, 8, 8, 8, 8, 8, 8, 8]⟩)) (.t 15)⟩,
       ⟨(some 17), none, .convi .i64 (.t 16)⟩,
       ⟨(some 18), none, .bin .add (.t 13) (.t 17)⟩,
       ⟨(some 2), none, .mv (.t 18)⟩])
     .ret))))⟩

/-- math/bits.Len64 -/
def math_bits_Len64 : FnIR := ⟨1, 25, [.t 2],
 (.seq (some ([0, 2], []))
  (.ops [
    ⟨(some 2), none, .mv (.c (.int .i64 0))⟩])
  (.seq (some ([0, 2], []))
   (.seq (some ([0, 2, 4], []))
    (.ops [
      ⟨(some 3), none, .mv (.t 0)⟩,
      ⟨(some 4), none, .bin .geq (.t 3) (.c (.int .u64 4294967296))⟩])
    (.cond (.t 4)
     (.seq (some ([0], []))
      (.ops [
        ⟨(some 5), none, .mv (.t 0)⟩,
        ⟨(some 6), none, .bin .shr (.t 5) (.c (.int .u64 32))⟩,
        ⟨(some 0), none, .mv (.t 6)⟩])
      (.ops [
        ⟨(some 2), none, .mv (.c (.int .i64 32))⟩]))
     .skip))
   (.seq (some ([0, 2], []))
    (.seq (some ([0, 2, 8], []))
     (.ops [
       ⟨(some 7), none, .mv (.t 0)⟩,
       ⟨(some 8), none, .bin .geq (.t 7) (.c (.int .u64 65536))⟩])
     (.cond (.t 8)
      (.seq (some ([0, 2], []))
       (.ops [
         ⟨(some 9), none, .mv (.t 0)⟩,
         ⟨(some 10), none, .bin .shr (.t 9) (.c (.int .u64 16))⟩,
         ⟨(some 0), none, .mv (.t 10)⟩])
       (.ops [
         ⟨(some 11), none, .mv (.t 2)⟩,
         ⟨(some 12), none, .bin .add (.t 11) (.c (.int .i64 16))⟩,
         ⟨(some 2), none, .mv (.t 12)⟩]))
      .skip))
    (.seq (some ([0, 2], []))
     (.seq (some ([0, 2, 14], []))
      (.ops [
        ⟨(some 13), none, .mv (.t 0)⟩,
        ⟨(some 14), none, .bin .geq (.t 13) (.c (.int .u64 256))⟩])
      (.cond (.t 14)
       (.seq (some ([0, 2], []))
        (.ops [
          ⟨(some 15), none, .mv (.t 0)⟩,
          ⟨(some 16), none, .bin .shr (.t 15) (.c (.int .u64 8))⟩,
          ⟨(some 0), none, .mv (.t 16)⟩])
        (.ops [
          ⟨(some 17), none, .mv (.t 2)⟩,
          ⟨(some 18), none, .bin .add (.t 17) (.c (.int .i64 8))⟩,
          ⟨(some 2), none, .mv (.t 18)⟩]))
       .skip))
     (.seq none
      (.ops [
        ⟨(some 19), none, .mv (.t 2)⟩,
        ⟨(some 20), none, .mv (.t 0)⟩,
        ⟨(some 21), none, .convi .u8 (.t 20)⟩,
        ⟨(some 22), none, .idxs (.c (.str ⟨#[0, 1, 2, 2, 3, 3, 3, 3, 4, 4, 4, 4, 4, 4, 4, 4, 5, 5, 5, 5, 5, 5, 5, 5, 5, 5, 5, 5, 5, 5, 5, 5, 6, 6, 6, 6, 6, 6, 6, 6, 6, 6, 6, 6, 6, 6, 6, 6, 6, 6, 6, 6, 6, 6, 6, 6, 6, 6, 6, 6, 6, 6, 6, 6, 7, 7, 7, 7, 7, 7, 7, 7, 7, 7, 7, 7, 7, 7, 7, 7, 7, 7, 7, 7, 7, 7, 7, 7, 7, 7, 7, 7, 7, 7, 7, 7, 7, 7, 7, 7, 7, 7, 7, 7, 7, 7, 7, 7, 7, 7, 7, 7, 7, 7, 7, 7, 7, 7, 7, 7, 7, 7, 7, 7, 7, 7, 7, 7, 8, 8, 8, 8, 8, 8, 8, 8, 8, 8, 8, 8, 8, 8, 8, 8, 8, 8, 8, 8, 8, 8, 8, 8, 8, 8, 8, 8, 8, 8, 8, 8, 8, 8, 8, 8, 8, 8, 8, 8, 8, 8, 8, 8, 8, 8, 8, 8, 8, 8, 8, 8, 8, 8, 8, 8, 8, 8, 8, 8, 8, 8, 8, 8, 8, 8, 8, 8, 8, 8, 8, 8, 8, 8, 8, 8, 8, 8, 8, 8, 8, 8, 8, 8, 8, 8, 8, 8, 8, 8, 8, 8, 8, 8, 8, 8, 8, 8, 8, 8, 8, 8, 8, 8, 8, 8, 8, 8, 8, 8, 8, 8, 8, 8, 8, 8, 8, 8, 8, 8, 8, 8, 8, 8, 8, 8, 8, 8]⟩)) (.t 21)⟩,
        ⟨(some 23), none, .convi .i64 (.t 22)⟩,
        ⟨(some 24), none, .bin .add (.t 19) (.t 23)⟩,
        ⟨(some 2), none, .mv (.t 24)⟩])
      .ret)))))⟩

def ref18_stands_l0 : IR :=
 (.seq (some ([0, 2, 3, 9, 10], [9]))
  (.seq (some ([0, 2, 3, 9, 10, 28], [9]))
   (.ops [
     ⟨(some 25), none, .mv (.t 10)⟩,
     ⟨(some 26), none, .mv (.t 0)⟩,
     ⟨(some 27), none, .blen .slice (.t 26)⟩,
     ⟨(some 28), none, .bin .lss (.t 25) (.t 27)⟩])
   (.cond (.t 28)
    .skip
    (.exit 0)))
  (.seq (some ([0, 2, 3, 9, 10], [9]))
   (.block 1
    (.seq (some ([0, 2, 3, 9, 10, 11], [9, 11]))
     (.ops [
       ⟨(some 31), none, .mv (.t 0)⟩,
       ⟨(some 32), none, .mv (.t 10)⟩,
       ⟨(some 33), none, .iaddr 8 (.t 31) (.t 32)⟩,
       ⟨(some 34), none, .load true 8 (.t 33)⟩,
       ⟨(some 11), none, .alloc [(.int .i64 0), (.int .i64 0), (.int .i64 0), (.int .i64 0), (.int .i64 0), (.int .i64 0), (.int .i64 0), (.bool false)]⟩,
       ⟨none, none, .store 8 (.t 11) (.t 34)⟩])
     (.seq (some ([0, 2, 3, 9, 10, 73], [9, 11]))
      (.ops [
        ⟨(some 35), none, .faddr 3 (.t 11)⟩,
        ⟨(some 36), none, .load false 1 (.t 35)⟩,
        ⟨(some 37), none, .faddr 3 (.t 9)⟩,
        ⟨(some 38), none, .load false 1 (.t 37)⟩,
        ⟨(some 39), none, .bin .eql (.t 36) (.t 38)⟩,
        ⟨(some 40), none, .mv (.t 39)⟩,
        ⟨(some 41), (some (40, true)), .faddr 4 (.t 11)⟩,
        ⟨(some 42), (some (40, true)), .load false 1 (.t 41)⟩,
        ⟨(some 43), (some (40, true)), .faddr 4 (.t 9)⟩,
        ⟨(some 44), (some (40, true)), .load false 1 (.t 43)⟩,
        ⟨(some 45), (some (40, true)), .bin .eql (.t 42) (.t 44)⟩,
        ⟨(some 46), none, .pick (.t 40) (.t 45) (.c (.bool false))⟩,
        ⟨(some 47), none, .mv (.t 46)⟩,
        ⟨(some 48), (some (47, true)), .load true 8 (.t 11)⟩,
        ⟨(some 49), (some (47, true)), .mv (.t 2)⟩,
        ⟨(some 50), (some (47, true)), .mv (.t 3)⟩,
        ⟨(some 51), (some (47, true)), .call (.f ref18_counts_id) [(.t 48), (.t 49), (.t 50)]⟩,
        ⟨(some 52), none, .pick (.t 47) (.t 51) (.c (.bool false))⟩,
        ⟨(some 53), none, .mv (.t 52)⟩,
        ⟨(some 54), (some (53, true)), .faddr 1 (.t 11)⟩,
        ⟨(some 55), (some (53, true)), .load false 1 (.t 54)⟩,
        ⟨(some 56), (some (53, true)), .faddr 1 (.t 9)⟩,
        ⟨(some 57), (some (53, true)), .load false 1 (.t 56)⟩,
        ⟨(some 58), (some (53, true)), .bin .gtr (.t 55) (.t 57)⟩,
        ⟨(some 59), (some (53, true)), .mv (.t 58)⟩,
        ⟨(some 60), (some (59, false)), .faddr 1 (.t 11)⟩,
        ⟨(some 61), (some (59, false)), .load false 1 (.t 60)⟩,
        ⟨(some 62), (some (59, false)), .faddr 1 (.t 9)⟩,
        ⟨(some 63), (some (59, false)), .load false 1 (.t 62)⟩,
        ⟨(some 64), (some (59, false)), .bin .eql (.t 61) (.t 63)⟩,
        ⟨(some 65), (some (59, false)), .mv (.t 64)⟩,
        ⟨(some 66), (some (65, true)), .faddr 0 (.t 11)⟩,
        ⟨(some 67), (some (65, true)), .load false 1 (.t 66)⟩,
        ⟨(some 68), (some (65, true)), .faddr 0 (.t 9)⟩,
        ⟨(some 69), (some (65, true)), .load false 1 (.t 68)⟩,
        ⟨(some 70), (some (65, true)), .bin .gtr (.t 67) (.t 69)⟩,
        ⟨(some 71), (some (59, false)), .pick (.t 65) (.t 70) (.c (.bool false))⟩,
        ⟨(some 72), (some (53, true)), .pick (.t 59) (.c (.bool true)) (.t 71)⟩,
        ⟨(some 73), none, .pick (.t 53) (.t 72) (.c (.bool false))⟩])
      (.cond (.t 73)
       (.seq none
        (.ops [
          ⟨(some 8), none, .mv (.c (.bool false))⟩])
        .ret)
       .skip))))
   (.ops [
     ⟨(some 29), none, .mv (.t 10)⟩,
     ⟨(some 30), none, .bin .add (.t 29) (.c (.int .i64 1))⟩,
     ⟨(some 10), none, .mv (.t 30)⟩])))
/-- signatory/signatoryref18.stands -/
def ref18_stands : FnIR := ⟨4, 74, [.t 8],
 (.seq (some ([0, 1, 2, 3], []))
  (.ops [
    ⟨(some 8), none, .mv (.c (.bool false))⟩])
  (.seq (some ([0, 2, 3, 9], [9]))
   (.ops [
     ⟨(some 12), none, .mv (.t 0)⟩,
     ⟨(some 13), none, .mv (.t 1)⟩,
     ⟨(some 14), none, .iaddr 8 (.t 12) (.t 13)⟩,
     ⟨(some 15), none, .load true 8 (.t 14)⟩,
     ⟨(some 9), none, .alloc [(.int .i64 0), (.int .i64 0), (.int .i64 0), (.int .i64 0), (.int .i64 0), (.int .i64 0), (.int .i64 0), (.bool false)]⟩,
     ⟨none, none, .store 8 (.t 9) (.t 15)⟩])
   (.seq (some ([0, 2, 3, 9], [9]))
    (.seq (some ([0, 2, 3, 9, 24], [9]))
     (.ops [
       ⟨(some 16), none, .faddr 7 (.t 9)⟩,
       ⟨(some 17), none, .load false 1 (.t 16)⟩,
       ⟨(some 18), none, .mv (.t 17)⟩,
       ⟨(some 19), (some (18, false)), .load true 8 (.t 9)⟩,
       ⟨(some 20), (some (18, false)), .mv (.t 2)⟩,
       ⟨(some 21), (some (18, false)), .mv (.t 3)⟩,
       ⟨(some 22), (some (18, false)), .call (.f ref18_counts_id) [(.t 19), (.t 20), (.t 21)]⟩,
       ⟨(some 23), (some (18, false)), .un .not (.t 22)⟩,
       ⟨(some 24), none, .pick (.t 18) (.c (.bool true)) (.t 23)⟩])
     (.cond (.t 24)
      (.seq none
       (.ops [
         ⟨(some 8), none, .mv (.c (.bool false))⟩])
       .ret)
      .skip))
    (.seq (some ([], []))
     (.seq (some ([0, 2, 3, 9, 10], [9]))
      (.ops [
        ⟨(some 10), none, .mv (.c (.int .i64 0))⟩])
      (.block 0
       (.loop ref18_stands_l0)))
     (.seq none
      (.ops [
        ⟨(some 8), none, .mv (.c (.bool true))⟩])
      .ret)))))⟩

def slices_siftDownOrdered_int_l0 : IR :=
 (.block 1
  (.seq (some ([0, 2, 3, 8, 9], []))
   (.ops [
     ⟨(some 11), none, .mv (.t 8)⟩,
     ⟨(some 12), none, .bin .mul (.c (.int .i64 2)) (.t 11)⟩,
     ⟨(some 13), none, .bin .add (.t 12) (.c (.int .i64 1))⟩,
     ⟨(some 9), none, .mv (.t 13)⟩])
   (.seq (some ([0, 2, 3, 8, 9], []))
    (.seq (some ([0, 2, 3, 8, 9, 16], []))
     (.ops [
       ⟨(some 14), none, .mv (.t 9)⟩,
       ⟨(some 15), none, .mv (.t 2)⟩,
       ⟨(some 16), none, .bin .geq (.t 14) (.t 15)⟩])
     (.cond (.t 16)
      (.exit 0)
      .skip))
    (.seq (some ([0, 2, 3, 8, 9], []))
     (.seq (some ([0, 2, 3, 8, 9, 36], []))
      (.ops [
        ⟨(some 17), none, .mv (.t 9)⟩,
        ⟨(some 18), none, .bin .add (.t 17) (.c (.int .i64 1))⟩,
        ⟨(some 19), none, .mv (.t 2)⟩,
        ⟨(some 20), none, .bin .lss (.t 18) (.t 19)⟩,
        ⟨(some 21), none, .mv (.t 20)⟩,
        ⟨(some 22), (some (21, true)), .mv (.t 0)⟩,
        ⟨(some 23), (some (21, true)), .mv (.t 3)⟩,
        ⟨(some 24), (some (21, true)), .mv (.t 9)⟩,
        ⟨(some 25), (some (21, true)), .bin .add (.t 23) (.t 24)⟩,
        ⟨(some 26), (some (21, true)), .iaddr 1 (.t 22) (.t 25)⟩,
        ⟨(some 27), (some (21, true)), .load false 1 (.t 26)⟩,
        ⟨(some 28), (some (21, true)), .mv (.t 0)⟩,
        ⟨(some 29), (some (21, true)), .mv (.t 3)⟩,
        ⟨(some 30), (some (21, true)), .mv (.t 9)⟩,
        ⟨(some 31), (some (21, true)), .bin .add (.t 29) (.t 30)⟩,
        ⟨(some 32), (some (21, true)), .bin .add (.t 31) (.c (.int .i64 1))⟩,
        ⟨(some 33), (some (21, true)), .iaddr 1 (.t 28) (.t 32)⟩,
        ⟨(some 34), (some (21, true)), .load false 1 (.t 33)⟩,
        ⟨(some 35), (some (21, true)), .call (.f cmp_Less_int_id) [(.t 27), (.t 34)]⟩,
        ⟨(some 36), none, .pick (.t 21) (.t 35) (.c (.bool false))⟩])
      (.cond (.t 36)
       (.ops [
         ⟨(some 37), none, .mv (.t 9)⟩,
         ⟨(some 38), none, .bin .add (.t 37) (.c (.int .i64 1))⟩,
         ⟨(some 9), none, .mv (.t 38)⟩])
       .skip))
     (.seq (some ([0, 2, 3, 8, 9], []))
      (.seq (some ([0, 2, 3, 8, 9, 52], []))
       (.ops [
         ⟨(some 39), none, .mv (.t 0)⟩,
         ⟨(some 40), none, .mv (.t 3)⟩,
         ⟨(some 41), none, .mv (.t 8)⟩,
         ⟨(some 42), none, .bin .add (.t 40) (.t 41)⟩,
         ⟨(some 43), none, .iaddr 1 (.t 39) (.t 42)⟩,
         ⟨(some 44), none, .load false 1 (.t 43)⟩,
         ⟨(some 45), none, .mv (.t 0)⟩,
         ⟨(some 46), none, .mv (.t 3)⟩,
         ⟨(some 47), none, .mv (.t 9)⟩,
         ⟨(some 48), none, .bin .add (.t 46) (.t 47)⟩,
         ⟨(some 49), none, .iaddr 1 (.t 45) (.t 48)⟩,
         ⟨(some 50), none, .load false 1 (.t 49)⟩,
         ⟨(some 51), none, .call (.f cmp_Less_int_id) [(.t 44), (.t 50)]⟩,
         ⟨(some 52), none, .un .not (.t 51)⟩])
       (.cond (.t 52)
        .ret
        .skip))
      (.seq (some ([0, 2, 3, 9], []))
       (.draw [
         ⟨0, false, ⟨(some 53), none, .mv (.t 0)⟩⟩,
         ⟨1, false, ⟨(some 54), none, .mv (.t 3)⟩⟩,
         ⟨2, false, ⟨(some 55), none, .mv (.t 8)⟩⟩,
         ⟨3, false, ⟨(some 56), none, .bin .add (.t 54) (.t 55)⟩⟩,
         ⟨4, true, ⟨(some 57), none, .mv (.t 0)⟩⟩,
         ⟨5, true, ⟨(some 58), none, .mv (.t 3)⟩⟩,
         ⟨6, true, ⟨(some 59), none, .mv (.t 9)⟩⟩,
         ⟨7, true, ⟨(some 60), none, .bin .add (.t 58) (.t 59)⟩⟩,
         ⟨8, false, ⟨(some 61), none, .mv (.t 0)⟩⟩,
         ⟨9, false, ⟨(some 62), none, .mv (.t 3)⟩⟩,
         ⟨10, false, ⟨(some 63), none, .mv (.t 9)⟩⟩,
         ⟨11, false, ⟨(some 64), none, .bin .add (.t 62) (.t 63)⟩⟩,
         ⟨12, false, ⟨(some 65), none, .iaddr 1 (.t 61) (.t 64)⟩⟩,
         ⟨13, false, ⟨(some 66), none, .load false 1 (.t 65)⟩⟩,
         ⟨14, false, ⟨(some 67), none, .mv (.t 0)⟩⟩,
         ⟨15, false, ⟨(some 68), none, .mv (.t 3)⟩⟩,
         ⟨16, false, ⟨(some 69), none, .mv (.t 8)⟩⟩,
         ⟨17, false, ⟨(some 70), none, .bin .add (.t 68) (.t 69)⟩⟩,
         ⟨18, false, ⟨(some 71), none, .iaddr 1 (.t 67) (.t 70)⟩⟩,
         ⟨19, false, ⟨(some 72), none, .load false 1 (.t 71)⟩⟩,
         ⟨20, false, ⟨(some 73), none, .iaddr 1 (.t 53) (.t 56)⟩⟩,
         ⟨21, false, ⟨none, none, .store 1 (.t 73) (.t 66)⟩⟩,
         ⟨22, false, ⟨(some 74), none, .iaddr 1 (.t 57) (.t 60)⟩⟩,
         ⟨23, false, ⟨none, none, .store 1 (.t 74) (.t 72)⟩⟩])
       (.ops [
         ⟨(some 75), none, .mv (.t 9)⟩,
         ⟨(some 8), none, .mv (.t 75)⟩])))))))
/-- slices.siftDownOrdered[int] -/
def slices_siftDownOrdered_int : FnIR := ⟨4, 76, [],
 (.seq (some ([0, 2, 3, 8], []))
  (.ops [
    ⟨(some 10), none, .mv (.t 1)⟩,
    ⟨(some 8), none, .mv (.t 10)⟩])
  (.block 0
   (.loop slices_siftDownOrdered_int_l0)))⟩

/-- slices.nextPowerOfTwo -/
def slices_nextPowerOfTwo : FnIR := ⟨1, 7, [.t 2],
 (.seq (some ([0], []))
  (.ops [
    ⟨(some 2), none, .mv (.c (.int .u64 0))⟩])
  (.seq none
   (.ops [
     ⟨(some 3), none, .mv (.t 0)⟩,
     ⟨(some 4), none, .convi .u64 (.t 3)⟩,
     ⟨(some 5), none, .call (.f math_bits_Len_id) [(.t 4)]⟩,
     ⟨(some 6), none, .bin .shl (.c (.int .u64 1)) (.t 5)⟩,
     ⟨(some 2), none, .mv (.t 6)⟩])
   .ret))⟩

/-- (*slices.xorshift).Next -/
def slices_xorshift_Next : FnIR := ⟨1, 33, [.t 2],
 (.seq (some ([0], []))
  (.ops [
    ⟨(some 2), none, .mv (.c (.int .u64 0))⟩])
  (.seq (some ([0], []))
   (.ops [
     ⟨(some 3), none, .mv (.t 0)⟩,
     ⟨(some 4), none, .nilck (.t 3)⟩,
     ⟨(some 5), none, .load false 1 (.t 4)⟩,
     ⟨(some 6), none, .mv (.t 0)⟩,
     ⟨(some 7), none, .nilck (.t 6)⟩,
     ⟨(some 8), none, .load false 1 (.t 7)⟩,
     ⟨(some 9), none, .bin .shl (.t 8) (.c (.int .u64 13))⟩,
     ⟨(some 10), none, .bin .xor (.t 5) (.t 9)⟩,
     ⟨(some 11), none, .nilck (.t 3)⟩,
     ⟨none, none, .store 1 (.t 11) (.t 10)⟩])
   (.seq (some ([0], []))
    (.ops [
      ⟨(some 12), none, .mv (.t 0)⟩,
      ⟨(some 13), none, .nilck (.t 12)⟩,
      ⟨(some 14), none, .load false 1 (.t 13)⟩,
      ⟨(some 15), none, .mv (.t 0)⟩,
      ⟨(some 16), none, .nilck (.t 15)⟩,
      ⟨(some 17), none, .load false 1 (.t 16)⟩,
      ⟨(some 18), none, .bin .shr (.t 17) (.c (.int .u64 7))⟩,
      ⟨(some 19), none, .bin .xor (.t 14) (.t 18)⟩,
      ⟨(some 20), none, .nilck (.t 12)⟩,
      ⟨none, none, .store 1 (.t 20) (.t 19)⟩])
    (.seq (some ([0], []))
     (.ops [
       ⟨(some 21), none, .mv (.t 0)⟩,
       ⟨(some 22), none, .nilck (.t 21)⟩,
       ⟨(some 23), none, .load false 1 (.t 22)⟩,
       ⟨(some 24), none, .mv (.t 0)⟩,
       ⟨(some 25), none, .nilck (.t 24)⟩,
       ⟨(some 26), none, .load false 1 (.t 25)⟩,
       ⟨(some 27), none, .bin .shl (.t 26) (.c (.int .u64 17))⟩,
       ⟨(some 28), none, .bin .xor (.t 23) (.t 27)⟩,
       ⟨(some 29), none, .nilck (.t 21)⟩,
       ⟨none, none, .store 1 (.t 29) (.t 28)⟩])
     (.seq none
      (.ops [
        ⟨(some 30), none, .mv (.t 0)⟩,
        ⟨(some 31), none, .nilck (.t 30)⟩,
        ⟨(some 32), none, .load false 1 (.t 31)⟩,
        ⟨(some 2), none, .mv (.t 32)⟩])
      .ret)))))⟩

/-- slices.medianAdjacentOrdered[int] -/
def slices_medianAdjacentOrdered_int : FnIR := ⟨3, 15, [.t 6],
 (.seq (some ([0, 1, 2], []))
  (.ops [
    ⟨(some 6), none, .mv (.c (.int .i64 0))⟩])
  (.seq none
   (.ops [
     ⟨(some 7), none, .mv (.t 0)⟩,
     ⟨(some 8), none, .mv (.t 1)⟩,
     ⟨(some 9), none, .bin .sub (.t 8) (.c (.int .i64 1))⟩,
     ⟨(some 10), none, .mv (.t 1)⟩,
     ⟨(some 11), none, .mv (.t 1)⟩,
     ⟨(some 12), none, .bin .add (.t 11) (.c (.int .i64 1))⟩,
     ⟨(some 13), none, .mv (.t 2)⟩,
     ⟨(some 14), none, .call (.f slices_medianOrdered_int_id) [(.t 7), (.t 9), (.t 10), (.t 12), (.t 13)]⟩,
     ⟨(some 6), none, .mv (.t 14)⟩])
   .ret))⟩

/-- slices.medianOrdered[int] -/
def slices_medianOrdered_int : FnIR := ⟨5, 36, [.t 10],
 (.seq (some ([0, 1, 2, 3, 4], []))
  (.ops [
    ⟨(some 10), none, .mv (.c (.int .i64 0))⟩])
  (.seq (some ([0, 1, 2, 3, 4], []))
   (.ops [
     ⟨(some 12), none, .mv (.t 0)⟩,
     ⟨(some 13), none, .mv (.t 1)⟩,
     ⟨(some 14), none, .mv (.t 2)⟩,
     ⟨(some 15), none, .mv (.t 4)⟩,
     ⟨(some 16), none, .call (.f slices_order2Ordered_int_id) [(.t 12), (.t 13), (.t 14), (.t 15)]⟩,
     ⟨(some 11), none, .mv (.t 16)⟩,
     ⟨(some 17), none, .ext (.t 11) 0⟩,
     ⟨(some 18), none, .ext (.t 11) 1⟩,
     ⟨(some 1), none, .mv (.t 17)⟩,
     ⟨(some 2), none, .mv (.t 18)⟩])
   (.seq (some ([0, 1, 2, 4], []))
    (.ops [
      ⟨(some 20), none, .mv (.t 0)⟩,
      ⟨(some 21), none, .mv (.t 2)⟩,
      ⟨(some 22), none, .mv (.t 3)⟩,
      ⟨(some 23), none, .mv (.t 4)⟩,
      ⟨(some 24), none, .call (.f slices_order2Ordered_int_id) [(.t 20), (.t 21), (.t 22), (.t 23)]⟩,
      ⟨(some 19), none, .mv (.t 24)⟩,
      ⟨(some 25), none, .ext (.t 19) 0⟩,
      ⟨(some 26), none, .ext (.t 19) 1⟩,
      ⟨(some 2), none, .mv (.t 25)⟩,
      ⟨(some 3), none, .mv (.t 26)⟩])
    (.seq (some ([2], []))
     (.ops [
       ⟨(some 28), none, .mv (.t 0)⟩,
       ⟨(some 29), none, .mv (.t 1)⟩,
       ⟨(some 30), none, .mv (.t 2)⟩,
       ⟨(some 31), none, .mv (.t 4)⟩,
       ⟨(some 32), none, .call (.f slices_order2Ordered_int_id) [(.t 28), (.t 29), (.t 30), (.t 31)]⟩,
       ⟨(some 27), none, .mv (.t 32)⟩,
       ⟨(some 33), none, .ext (.t 27) 0⟩,
       ⟨(some 34), none, .ext (.t 27) 1⟩,
       ⟨(some 1), none, .mv (.t 33)⟩,
       ⟨(some 2), none, .mv (.t 34)⟩])
     (.seq none
      (.ops [
        ⟨(some 35), none, .mv (.t 2)⟩,
        ⟨(some 10), none, .mv (.t 35)⟩])
      .ret)))))⟩

/-- cmp.isNaN[int] -/
def cmp_isNaN_int : FnIR := ⟨1, 6, [.t 2],
 (.seq (some ([0], []))
  (.ops [
    ⟨(some 2), none, .mv (.c (.bool false))⟩])
  (.seq none
   (.ops [
     ⟨(some 3), none, .mv (.t 0)⟩,
     ⟨(some 4), none, .mv (.t 0)⟩,
     ⟨(some 5), none, .bin .neq (.t 3) (.t 4)⟩,
     ⟨(some 2), none, .mv (.t 5)⟩])
   .ret))⟩

/-- signatory/signatoryref18.counts -/
def ref18_counts : FnIR := ⟨3, 17, [.t 6],
 (.seq (some ([1, 2, 3], [3]))
  (.ops [
    ⟨(some 3), none, .box 8 (.t 0)⟩,
    ⟨(some 6), none, .mv (.c (.bool false))⟩])
  (.seq none
   (.ops [
     ⟨(some 7), none, .faddr 1 (.t 3)⟩,
     ⟨(some 8), none, .load false 1 (.t 7)⟩,
     ⟨(some 9), none, .mv (.t 1)⟩,
     ⟨(some 10), none, .bin .leq (.t 8) (.t 9)⟩,
     ⟨(some 11), none, .mv (.t 10)⟩,
     ⟨(some 12), (some (11, true)), .faddr 2 (.t 3)⟩,
     ⟨(some 13), (some (11, true)), .load false 1 (.t 12)⟩,
     ⟨(some 14), (some (11, true)), .mv (.t 2)⟩,
     ⟨(some 15), (some (11, true)), .bin .leq (.t 13) (.t 14)⟩,
     ⟨(some 16), none, .pick (.t 11) (.t 15) (.c (.bool false))⟩,
     ⟨(some 6), none, .mv (.t 16)⟩])
   .ret))⟩

/-- slices.order2Ordered[int] -/
def slices_order2Ordered_int : FnIR := ⟨4, 28, [.t 8, .t 9],
 (.seq (some ([0, 1, 2, 3], []))
  (.ops [
    ⟨(some 8), none, .mv (.c (.int .i64 0))⟩,
    ⟨(some 9), none, .mv (.c (.int .i64 0))⟩])
  (.seq (some ([1, 2], []))
   (.seq (some ([1, 2, 3, 18], []))
    (.ops [
      ⟨(some 10), none, .mv (.t 0)⟩,
      ⟨(some 11), none, .mv (.t 2)⟩,
      ⟨(some 12), none, .iaddr 1 (.t 10) (.t 11)⟩,
      ⟨(some 13), none, .load false 1 (.t 12)⟩,
      ⟨(some 14), none, .mv (.t 0)⟩,
      ⟨(some 15), none, .mv (.t 1)⟩,
      ⟨(some 16), none, .iaddr 1 (.t 14) (.t 15)⟩,
      ⟨(some 17), none, .load false 1 (.t 16)⟩,
      ⟨(some 18), none, .call (.f cmp_Less_int_id) [(.t 13), (.t 17)]⟩])
    (.cond (.t 18)
     (.seq (some ([1, 2], []))
      (.ops [
        ⟨(some 19), none, .mv (.t 3)⟩,
        ⟨(some 20), none, .nilck (.t 19)⟩,
        ⟨(some 21), none, .load false 1 (.t 20)⟩,
        ⟨(some 22), none, .bin .add (.t 21) (.c (.int .i64 1))⟩,
        ⟨(some 23), none, .nilck (.t 19)⟩,
        ⟨none, none, .store 1 (.t 23) (.t 22)⟩])
      (.seq none
       (.ops [
         ⟨(some 24), none, .mv (.t 2)⟩,
         ⟨(some 25), none, .mv (.t 1)⟩,
         ⟨(some 8), none, .mv (.t 24)⟩,
         ⟨(some 9), none, .mv (.t 25)⟩])
       .ret))
     .skip))
   (.seq none
    (.ops [
      ⟨(some 26), none, .mv (.t 1)⟩,
      ⟨(some 27), none, .mv (.t 2)⟩,
      ⟨(some 8), none, .mv (.t 26)⟩,
      ⟨(some 9), none, .mv (.t 27)⟩])
    .ret)))⟩
end Go.Abs

/- The abstract layer, part 3: what a value of the machine has to do with a piece of data. No conditions. -/
namespace Go.Abs

/-- Where a thing lies. -/
structure Place where
  blk : Nat
  off : Nat
  lim : Nat
  k : Nat

/-- What is known of memory: cells that nobody changes any more; where things lie; whose a cell is; how many frames there were. -/
structure Mem where
  known : Nat → Nat → Option Value
  place : Ref → Option Place
  owner : Nat → Nat → Option Ref
  nf : Nat
  hs : Nat     -- so much memory there is

def flatV : Value → Prop
  | .agg _ => False
  | .tuple _ => False
  | _ => True

mutual
def V (M : Mem) : Dat → Value → Prop
  | .any, _ => True
  | .bool b, v => v = .bool b
  | .int k n, v => v = .int k n
  | .str s, v => v = .string s
  | .list xs full, v => ∃ base len cap, v = .slice base len cap ∧ len = xs.length ∧ len ≤ cap ∧ (full = true → cap = len) ∧
      (cap = 0 ∨ ∃ b o k, base = some ⟨b, o, none⟩ ∧ Vs M k xs b o)
  | .ptr cs off, v => ∃ b o, v = .pointer (some ⟨b, o + off, none⟩) ∧ Vc M cs b o
  | .nilp, v => v = .pointer none
  | .nilmap, v => v = .map none
  | .fn f first caps, v => ∃ a c, v = .func (.func f) a c ∧ Vl M first a.toList ∧ Vl M caps c.toList
  | .nilfn, v => v = .nilFunc
  | .agg cs, v => ∃ a, v = .agg a ∧ Vl M cs a.toList ∧ ∀ x ∈ a.toList, flatV x
  | .iface t x, v => ∃ y, v = .iface t y ∧ V M x y
  | .nili, v => v = .nilIface
  | .tup l, v => ∃ a, v = .tuple a ∧ Vl M l a.toList
def Vl (M : Mem) : List Dat → List Value → Prop
  | [], [] => True
  | x :: xs, v :: vs => V M x v ∧ Vl M xs vs
  | _, _ => False
/-- Elements of k cells, one behind the other. -/
def Vs (M : Mem) (k : Nat) : List Dat → Nat → Nat → Prop
  | [], _, _ => True
  | x :: xs, b, o => (∃ v, V M x v ∧ v.cells.size = k ∧ (∀ c ∈ v.cells.toList, flatV c) ∧ ∀ j, j < k → M.known b (o + j) = v.cells[j]?) ∧ Vs M k xs b (o + k)
/-- Cells, one behind the other. -/
def Vc (M : Mem) : List Dat → Nat → Nat → Prop
  | [], _, _ => True
  | x :: xs, b, o => (∃ v, V M x v ∧ flatV v ∧ M.known b o = some v) ∧ Vc M xs b (o + 1)
end

mutual
def VD (M : Mem) : D → Value → Prop
  | .dat x, v => V M x v
  | .lst xs r, v => ∃ p base len cap, v = .slice base len cap ∧ len = xs.length ∧ len ≤ cap ∧ M.place r = some p ∧
      ((cap = len ∧ (cap = 0 ∨ ∃ b o, base = some ⟨b, o, none⟩ ∧ Vs M p.k xs b o)) ∨ ∃ o, base = some ⟨p.blk, o, none⟩ ∧ p.off = o + len * p.k ∧ p.lim = o + cap * p.k ∧ Vs M p.k xs p.blk o)
  | .arr r off len, v => ∃ p cap, v = .slice (some ⟨p.blk, p.off + off * p.k, none⟩) len cap ∧ len ≤ cap ∧ M.place r = some p ∧ p.off + (off + cap) * p.k ≤ p.lim
  | .ptr r off, v => ∃ p, M.place r = some p ∧ v = .pointer (some ⟨p.blk, p.off + off, none⟩)
  | .map r, v => ∃ p, M.place r = some p ∧ v = .map (some p.blk)
  | .it _ r, v => ∃ p, M.place r = some p ∧ v = .pointer (some ⟨p.blk, 0, none⟩)
  | .fn f first caps, v => ∃ a c, v = .func (.func f) a c ∧ VDl M first a.toList ∧ VDl M caps c.toList
  | .yld r, v => ∃ b, r = .obj b ∧ v = .func (.yield b) #[] #[]
  | .agg cs, v => ∃ a, v = .agg a ∧ VDl M cs a.toList ∧ ∀ x ∈ a.toList, flatV x
  | .iface t x, v => ∃ y, v = .iface t y ∧ VD M x y
  | .tup l, v => ∃ a, v = .tuple a ∧ VDl M l a.toList
def VDl (M : Mem) : List D → List Value → Prop
  | [], [] => True
  | x :: xs, v :: vs => VD M x v ∧ VDl M xs vs
  | _, _ => False
end

/-- More is known. -/
structure Mem.le (M M' : Mem) : Prop where
  known : ∀ b o v, M.known b o = some v → M'.known b o = some v
  place : ∀ r p, M.place r = some p → M'.place r = some p
  nf : M.nf ≤ M'.nf
  hs : M.hs ≤ M'.hs

theorem Mem.le.refl (M : Mem) : M.le M := ⟨fun _ _ _ h => h, fun _ _ h => h, Nat.le_refl _, Nat.le_refl _⟩
theorem Mem.le.trans {A B C : Mem} (h : A.le B) (k : B.le C) : A.le C := ⟨fun _ _ _ x => k.known _ _ _ (h.known _ _ _ x), fun _ _ x => k.place _ _ (h.place _ _ x), Nat.le_trans h.nf k.nf, Nat.le_trans h.hs k.hs⟩

mutual
theorem V.mono {M M' : Mem} (h : M.le M') : ∀ (x : Dat) (v : Value), V M x v → V M' x v
  | .any, _, _ => by unfold V; trivial
  | .bool b, v, hv => by unfold V at *; exact hv
  | .int k n, v, hv => by unfold V at *; exact hv
  | .str s, v, hv => by unfold V at *; exact hv
  | .list xs full, v, hv => by
    unfold V at *
    obtain ⟨base, len, cap, h1, h2, h3, h4, h5⟩ := hv
    refine ⟨base, len, cap, h1, h2, h3, h4, ?_⟩
    rcases h5 with h5 | ⟨b, o, k, h6, h7⟩
    · exact .inl h5
    · exact .inr ⟨b, o, k, h6, Vs.mono h k xs b o h7⟩
  | .ptr cs off, v, hv => by
    unfold V at *
    obtain ⟨b, o, h1, h2⟩ := hv
    exact ⟨b, o, h1, Vc.mono h cs b o h2⟩
  | .nilp, v, hv => by unfold V at *; exact hv
  | .nilmap, v, hv => by unfold V at *; exact hv
  | .fn f first caps, v, hv => by
    unfold V at *
    obtain ⟨a, c, h1, h2, h3⟩ := hv
    exact ⟨a, c, h1, Vl.mono h first _ h2, Vl.mono h caps _ h3⟩
  | .nilfn, v, hv => by unfold V at *; exact hv
  | .agg cs, v, hv => by
    unfold V at *
    obtain ⟨a, h1, h2, h3⟩ := hv
    exact ⟨a, h1, Vl.mono h cs _ h2, h3⟩
  | .iface t x, v, hv => by
    unfold V at *
    obtain ⟨y, h1, h2⟩ := hv
    exact ⟨y, h1, V.mono h x _ h2⟩
  | .nili, v, hv => by unfold V at *; exact hv
  | .tup l, v, hv => by
    unfold V at *
    obtain ⟨a, h1, h2⟩ := hv
    exact ⟨a, h1, Vl.mono h l _ h2⟩
theorem Vl.mono {M M' : Mem} (h : M.le M') : ∀ (xs : List Dat) (vs : List Value), Vl M xs vs → Vl M' xs vs
  | [], [], _ => by unfold Vl; trivial
  | x :: xs, v :: vs, hv => by
    unfold Vl at *
    exact ⟨V.mono h x v hv.1, Vl.mono h xs vs hv.2⟩
  | [], _ :: _, hv => by unfold Vl at hv; exact hv.elim
  | _ :: _, [], hv => by unfold Vl at hv; exact hv.elim
theorem Vs.mono {M M' : Mem} (h : M.le M') (k : Nat) : ∀ (xs : List Dat) (b o : Nat), Vs M k xs b o → Vs M' k xs b o
  | [], _, _, _ => by unfold Vs; trivial
  | x :: xs, b, o, hv => by
    unfold Vs at *
    obtain ⟨⟨v, h1, h2, h3, h4⟩, h5⟩ := hv
    refine ⟨⟨v, V.mono h x v h1, h2, h3, fun j hj => ?_⟩, Vs.mono h k xs b _ h5⟩
    have e := h4 j hj
    have hj' : j < v.cells.size := by omega
    rw [Array.getElem?_eq_getElem hj'] at e ⊢
    exact h.known _ _ _ e
theorem Vc.mono {M M' : Mem} (h : M.le M') : ∀ (xs : List Dat) (b o : Nat), Vc M xs b o → Vc M' xs b o
  | [], _, _, _ => by unfold Vc; trivial
  | x :: xs, b, o, hv => by
    unfold Vc at *
    obtain ⟨⟨v, h1, h2, h3⟩, h5⟩ := hv
    exact ⟨⟨v, V.mono h x v h1, h2, h.known _ _ _ h3⟩, Vc.mono h xs b _ h5⟩
end

mutual
theorem VD.mono {M M' : Mem} (h : M.le M') : ∀ (x : D) (v : Value), VD M x v → VD M' x v
  | .dat x, v, hv => by unfold VD at *; exact V.mono h x v hv
  | .lst xs r, v, hv => by
    unfold VD at *
    obtain ⟨p, base, len, cap, h1, h2, h3, h4, h5⟩ := hv
    refine ⟨p, base, len, cap, h1, h2, h3, h.place _ _ h4, ?_⟩
    rcases h5 with ⟨h5, h6 | ⟨b, o, h6, h7⟩⟩ | ⟨o, h5, h6, h7, h8⟩
    · exact .inl ⟨h5, .inl h6⟩
    · exact .inl ⟨h5, .inr ⟨b, o, h6, Vs.mono h _ _ _ _ h7⟩⟩
    · exact .inr ⟨o, h5, h6, h7, Vs.mono h _ _ _ _ h8⟩
  | .arr r off len, v, hv => by
    unfold VD at *
    obtain ⟨p, cap, h1, h2, h3, h4⟩ := hv
    exact ⟨p, cap, h1, h2, h.place _ _ h3, h4⟩
  | .ptr r off, v, hv => by
    unfold VD at *
    obtain ⟨p, h1, h2⟩ := hv
    exact ⟨p, h.place _ _ h1, h2⟩
  | .map r, v, hv => by
    unfold VD at *
    obtain ⟨p, h1, h2⟩ := hv
    exact ⟨p, h.place _ _ h1, h2⟩
  | .it _ r, v, hv => by
    unfold VD at *
    obtain ⟨p, h1, h2⟩ := hv
    exact ⟨p, h.place _ _ h1, h2⟩
  | .fn f first caps, v, hv => by
    unfold VD at *
    obtain ⟨a, c, h1, h2, h3⟩ := hv
    exact ⟨a, c, h1, VDl.mono h first _ h2, VDl.mono h caps _ h3⟩
  | .yld r, v, hv => by unfold VD at *; exact hv
  | .agg cs, v, hv => by
    unfold VD at *
    obtain ⟨a, h1, h2, h3⟩ := hv
    exact ⟨a, h1, VDl.mono h cs _ h2, h3⟩
  | .iface t x, v, hv => by
    unfold VD at *
    obtain ⟨y, h1, h2⟩ := hv
    exact ⟨y, h1, VD.mono h x _ h2⟩
  | .tup l, v, hv => by
    unfold VD at *
    obtain ⟨a, h1, h2⟩ := hv
    exact ⟨a, h1, VDl.mono h l _ h2⟩
theorem VDl.mono {M M' : Mem} (h : M.le M') : ∀ (xs : List D) (vs : List Value), VDl M xs vs → VDl M' xs vs
  | [], [], _ => by unfold VDl; trivial
  | x :: xs, v :: vs, hv => by
    unfold VDl at *
    exact ⟨VD.mono h x v hv.1, VDl.mono h xs vs hv.2⟩
  | [], _ :: _, hv => by unfold VDl at hv; exact hv.elim
  | _ :: _, [], hv => by unfold VDl at hv; exact hv.elim
end

end Go.Abs

/- The abstract layer, part 2: what the operations do with data. No conditions. -/
namespace Go.Abs

abbrev Own := List (Ref × Blk)

/-- A frame's state: its slots, what it made or was handed, what it carries along for others, how much it made, what it has put off. -/
structure St where
  tm : List (Nat × D)
  own : Own
  out : Ref → Option Blk
  next : Nat
  df : List (D × List D)

inductive Res where
  | ret (d : D)
  | pan (d : D)

inductive Ex where
  | normal
  | exit (id : Nat)
  | ret
  | pan (d : D)

def tmGet : List (Nat × D) → Nat → D
  | [], _ => .dat .any
  | (k, d) :: l, t => bif k == t then d else tmGet l t
/-- Of one frame and one place. -/
def Ref.same : Ref → Ref → Bool
  | .v l s _, .v l' s' _ => l == l' && s == s'
  | .ctr l, .ctr l' => l == l'
  | .obj b, .obj b' => b == b'
  | _, _ => false
def ownGet : Own → Ref → Option Blk
  | [], _ => none
  | (q, b) :: l, r => bif q.same r then (if q = r then some b else none) else ownGet l r
/-- The thing of this frame and place gets another number and content. -/
def ownSet : Own → Ref → Blk → Own
  | [], r, b => [(r, b)]
  | (q, c) :: l, r, b => bif q.same r then (r, b) :: l else (q, c) :: ownSet l r b
def ownDel : Own → Ref → Own
  | [], _ => []
  | (q, c) :: l, r => bif q.same r then ownDel l r else (q, c) :: ownDel l r

def gset (g : Ref → Option Blk) (r : Ref) (b : Blk) : Ref → Option Blk := fun q => if q = r then some b else g q
def gdel (g : Ref → Option Blk) (r : Ref) : Ref → Option Blk := fun q => if q = r then none else g q

def St.val (G : Nat → Dat) (st : St) : Opd → D
  | .t n => tmGet st.tm n
  | .c x => .dat x
  | .f n => .dat (.fn n [] [])
  | .g n => .dat (G n)

def St.get (st : St) (r : Ref) : Option Blk := match ownGet st.own r with | some b => some b | none => st.out r
def St.put (st : St) (d : Option Nat) (v : D) : St := match d with | some t => { st with tm := (t, v) :: st.tm } | none => st
def St.new (ℓ : Nat) (st : St) (t : Nat) (b : Blk) : St := { st with own := ownSet st.own (.v ℓ t st.next) b, next := st.next + 1 }
def St.upd (st : St) (r : Ref) (b : Blk) : St :=
  match ownGet st.own r with
  | some _ => { st with own := ownSet st.own r b }
  | none => { st with out := gset st.out r b }
def St.del (st : St) (r : Ref) : St :=
  match ownGet st.own r with
  | some _ => { st with own := ownDel st.own r }
  | none => { st with out := gdel st.out r }

def memN : List Nat → Nat → Bool
  | [], _ => false
  | a :: l, x => bif a == x then true else memN l x
/-- Only these slots, and what was made at these places, are kept. -/
def ownKeep (ss : List Nat) : Own → Own
  | [] => []
  | (.v l s i, b) :: o => bif memN ss s then (.v l s i, b) :: ownKeep ss o else ownKeep ss o
  | p :: o => p :: ownKeep ss o
def St.keep (st : St) : Option (List Nat × List Nat) → St
  | none => st
  | some (ts, ss) => { st with tm := ts.map fun t => (t, tmGet st.tm t), own := ownKeep ss st.own }

def undefD : D := .dat (.tup [])

def D.dat? : D → Option Dat
  | .dat x => some x
  | _ => none
def dats : List D → Option (List Dat)
  | [] => some []
  | d :: l => match d.dat?, dats l with | some x, some xs => some (x :: xs) | _, _ => none
def mkAgg (l : List D) : D := match dats l with | some xs => .dat (.agg xs) | none => .agg l
def mkTup (l : List D) : D := match dats l with | some xs => .dat (.tup xs) | none => .tup l
def mkIface (t : Nat) (d : D) : D := match d.dat? with | some x => .dat (.iface t x) | none => .iface t d
def D.cells : D → List D
  | .dat x => x.cells.map .dat
  | .agg cs => cs
  | .tup _ => []
  | x => [x]

/-- A slice inside of a value loses what only an append asks. -/
def Dat.wk1 : Dat → Dat
  | .list xs _ => .list xs false
  | x => x
def Dat.wk : Dat → Dat
  | .agg cs => .agg (cs.map Dat.wk1)
  | x => x.wk1
def D.wk1 : D → D
  | .dat x => .dat x.wk1
  | .lst xs _ => .dat (.list xs false)
  | d => d
/-- As an argument: what it holds is looked at, and not appended to. -/
def D.arg : D → D
  | .dat (.agg cs) => .dat (.agg (cs.map Dat.wk1))
  | .lst xs _ => .dat (.list xs false)
  | .agg cs => mkAgg (cs.map D.wk1)
  | d => d
/-- As an element of a list. -/
def D.elem : D → Option Dat
  | .dat x => some x.wk
  | .lst xs _ => some (.list xs false)
  | .agg cs => (dats (cs.map D.wk1)).map .agg
  | .fn f a b => match dats a, dats b with | some x, some y => some (.fn f x y) | _, _ => none
  | _ => none

/-- Cells read as one value. -/
def ld (agg : Bool) (n off : Nat) (cs : List D) : Option D :=
  if off + n ≤ cs.length then (bif agg then some (mkAgg ((cs.drop off).take n)) else bif n == 1 then cs[off]? else none) else none
def setAt : List D → Nat → List D → List D
  | cs, _, [] => cs
  | cs, o, x :: xs => setAt (cs.set o x) (o + 1) xs

def loadD (get : Ref → Option Blk) (agg : Bool) (n : Nat) : D → Option D
  | .dat (.ptr cs off) => ld agg n off (cs.map .dat)
  | .ptr r off => match get r with
    | some (.cells cs) => ld agg n off cs
    | some (.arr _ _ cs) => ld agg n off cs
    | _ => none
  | _ => none

def binI (op : BinOp) (k : IntKind) (a b : Int) : Option Dat :=
  match op with
  | .add => some (.int k (k.wrap (a + b)))
  | .sub => some (.int k (k.wrap (a - b)))
  | .mul => some (.int k (k.wrap (a * b)))
  | .quo => if b = 0 then none else some (.int k (k.wrap (a.tdiv b)))
  | .rem => if b = 0 then none else some (.int k (a.tmod b))
  | .eql => some (.bool (decide (a = b)))
  | .neq => some (.bool (!decide (a = b)))
  | .lss => some (.bool (decide (a < b)))
  | .leq => some (.bool (decide (a ≤ b)))
  | .gtr => some (.bool (decide (b < a)))
  | .geq => some (.bool (decide (b ≤ a)))
  | _ => none
def binD (op : BinOp) : D → D → Option D
  | .dat (.int k a), .dat (.int k' b) => if k = k' then (binI op k a b).map .dat else none
  | .dat (.str a), .dat (.str b) => match op with
    | .eql => some (.dat (.bool (decide (a = b))))
    | .neq => some (.dat (.bool (!decide (a = b))))
    | _ => none
  | _, _ => none
def eqbD (neg : Bool) : D → D → Option D
  | .dat (.bool a), .dat (.bool b) => some (.dat (.bool (bif neg then !(a == b) else a == b)))
  | _, _ => none
def eqC : KC → Dat → Dat → Option Bool
  | .i, .int k a, .int k' b => if k = k' then some (decide (a = b)) else none
  | .b, .bool a, .bool b => some (a == b)
  | .s, .str a, .str b => some (decide (a = b))
  | _, _, _ => none
def eqCs : List KC → List Dat → List Dat → Option Bool
  | [], [], [] => some true
  | k :: ks, x :: xs, y :: ys => match eqC k x y, eqCs ks xs ys with | some a, some b => some (a && b) | _, _ => none
  | _, _, _ => none
def eqsD (neg : Bool) (ks : List KC) : D → D → Option D
  | .dat (.agg xs), .dat (.agg ys) => (eqCs ks xs ys).map fun b => .dat (.bool (bif neg then !b else b))
  | _, _ => none
def unD (op : UnOp) : D → Option D
  | .dat (.bool b) => match op with | .not => some (.dat (.bool (!b))) | _ => none
  | .dat (.int k n) => match op with | .neg => some (.dat (.int k (k.wrap (0 - n)))) | _ => none
  | _ => none
def pickD (a b : D) : D → Option D
  | .dat (.bool t) => some (bif t then a else b)
  | _ => none
def nilckD : D → Option D
  | .dat (.ptr cs o) => some (.dat (.ptr cs o))
  | .ptr r o => some (.ptr r o)
  | .dat (.fn f a b) => some (.dat (.fn f a b))
  | .fn f a b => some (.fn f a b)
  | .yld r => some (.yld r)
  | _ => none
def conviD (k : IntKind) : D → Option D
  | .dat (.int _ n) => some (.dat (.int k (k.wrap n)))
  | _ => none
def mkfnD (f : Nat) (a b : List D) : D := .fn f a b

def elemPtr (k : Nat) (xs : List Dat) (i : Int) : Option D :=
  if 0 ≤ i then (xs[i.toNat]?).bind fun x => if x.cells.length = k then some (.dat (.ptr x.cells 0)) else none else none
def iaddrD (get : Ref → Option Blk) (k : Nat) : D → D → Option D
  | .dat (.list xs _), .dat (.int _ i) => elemPtr k xs i
  | .lst xs _, .dat (.int _ i) => elemPtr k xs i
  | .arr r off len, .dat (.int _ i) => match get r with
    | some (.arr k' _ _) => if k = k' ∧ 0 ≤ i ∧ i < len then some (.ptr r ((off + i.toNat) * k)) else none
    | _ => none
  | _, _ => none
def aaddrD (k len : Nat) : D → D → Option D
  | .dat (.ptr cs o), .dat (.int _ i) => if 0 ≤ i ∧ i < len then some (.dat (.ptr cs (o + i.toNat * k))) else none
  | .ptr r o, .dat (.int _ i) => if 0 ≤ i ∧ i < len then some (.ptr r (o + i.toNat * k)) else none
  | _, _ => none
def idxsD : D → D → Option D
  | .dat (.str s), .dat (.int _ i) => if 0 ≤ i then (s.data[i.toNat]?).map fun b => .dat (.int .u8 b.toNat) else none
  | _, _ => none
def fieldD (agg : Bool) (off n : Nat) : D → Option D
  | .dat (.agg cs) => ld agg n off (cs.map .dat)
  | .agg cs => ld agg n off cs
  | _ => none
def lenD (get : Ref → Option Blk) : LK → D → Option D
  | .slice, .dat (.list xs _) => some (.dat (.int .i64 xs.length))
  | .slice, .lst xs _ => some (.dat (.int .i64 xs.length))
  | .slice, .arr _ _ n => some (.dat (.int .i64 n))
  | .str, .dat (.str s) => some (.dat (.int .i64 s.size))
  | .map, .map r => match get r with
    | some (.map es) => some (.dat (.int .i64 es.length))
    | _ => none
  | .map, .dat .nilmap => some (.dat (.int .i64 0))
  | _, _ => none
def faddrD (off : Nat) : D → Option D
  | .dat (.ptr cs o) => some (.dat (.ptr cs (o + off)))
  | .ptr r o => some (.ptr r (o + off))
  | _ => none
def extD (i : Nat) : D → Option D
  | .dat (.tup l) => (l[i]?).map .dat
  | .tup l => l[i]?
  | _ => none
def putParts (z : List D) : List (Nat × Nat × D) → Option (List D)
  | [] => some z
  | (o, n, x) :: ps => if x.cells.length = n ∧ o + n ≤ z.length then putParts (setAt z o x.cells) ps else none
/-- A bound that stands or is a number. -/
def bnd (dflt : Nat) : Option D → Option Nat
  | none => some dflt
  | some (.dat (.int _ i)) => if 0 ≤ i then some i.toNat else none
  | _ => none
def strideOk (k : Nat) (ys : List Dat) : Prop := ∀ y ∈ ys, y.cells.length = k
instance (k : Nat) (ys : List Dat) : Decidable (strideOk k ys) := by unfold strideOk; infer_instance
def sliceL (k : Nat) (xs : List Dat) (fl : Bool) (lo hi : Nat) (mx : Option Nat) : Option D :=
  match mx with
  | none => if lo ≤ hi ∧ hi ≤ xs.length ∧ (lo = 0 ∨ strideOk k xs) then some (.dat (.list ((xs.take hi).drop lo) (fl && decide (hi = xs.length)))) else none
  | some m => if lo ≤ hi ∧ hi ≤ m ∧ m ≤ xs.length ∧ (lo = 0 ∨ strideOk k xs) then some (.dat (.list ((xs.take hi).drop lo) (decide (hi = m)))) else none
def sliceB (k : Nat) (xs : List Dat) (fl : Bool) (lo hi mx : Option D) : Option D :=
  if k = 0 then none else (bnd 0 lo).bind fun l => (bnd xs.length hi).bind fun h => match mx with
    | none => sliceL k xs fl l h none
    | some m => (bnd 0 (some m)).bind fun m => sliceL k xs fl l h (some m)
def sliceD (get : Ref → Option Blk) (k : Nat) (lo hi mx : Option D) : D → Option D
  | .dat (.list xs fl) => sliceB k xs fl lo hi mx
  | .lst xs _ => sliceB k xs false lo hi mx
  | .arr r off len => match get r with
    | some (.arr k' _ _) => (bnd 0 lo).bind fun l => (bnd len hi).bind fun h => match mx with
      | none => if k = k' ∧ k ≠ 0 ∧ l ≤ h ∧ h ≤ len then (if l < len then some (.arr r (off + l) (h - l)) else some (.dat (.list [] false))) else none
      | some _ => none
    | _ => none
  | _ => none
def ssliceD (lo hi : Option D) : D → Option D
  | .dat (.str s) => (bnd 0 lo).bind fun l => (bnd s.size hi).bind fun h => if l ≤ h ∧ h ≤ s.size then some (.dat (.str (s.extract l h))) else none
  | _ => none
def eqKey : KT → Dat → Dat → Option Bool
  | .c k, x, y => eqC k x y
  | .st ks, .agg xs, .agg ys => eqCs ks xs ys
  | _, _, _ => none
/-- The place of a key. -/
def findK (q : KT) (k : Dat) : List (Dat × D) → Option (Option (Nat × D))
  | [] => some none
  | (x, d) :: es => match eqKey q k x with
    | some true => some (some (0, d))
    | some false => (findK q k es).map fun o => o.map fun p => (p.1 + 1, p.2)
    | none => none
def mapGet (q : KT) (k : Dat) (es : List (Dat × D)) : Option (Option D) := (findK q k es).map fun o => o.map (·.2)
def mapPut (q : KT) (k : Dat) (v : D) (es : List (Dat × D)) : Option (List (Dat × D)) := (findK q k es).map fun o => match o with
  | some (i, _) => es.set i (k, v)
  | none => es ++ [(k, v)]
def mapDel (q : KT) (k : Dat) (es : List (Dat × D)) : Option (List (Dat × D)) := (findK q k es).map fun o => match o with
  | some (i, _) => es.eraseIdx i
  | none => es
def okKey (q : KT) (k : Dat) : Bool := (eqKey q k k).isSome
def lookR (z : Dat) (ok : Bool) (o : Option D) : D :=
  bif ok then mkTup [o.getD (.dat z), .dat (.bool o.isSome)] else o.getD (.dat z)
def lookupD (get : Ref → Option Blk) (q : KT) (z : Dat) (ok : Bool) : D → D → Option D
  | .map r, .dat k => match get r with
    | some (.map es) => if okKey q k then (mapGet q k es).map (lookR z ok) else none
    | _ => none
  | .dat .nilmap, .dat k => if okKey q k then some (lookR z ok none) else none
  | _, _ => none
def tassD (t : Nat) (z : Dat) (ok : Bool) : D → Option D
  | .dat (.iface t' x) => if t' = t then some (bif ok then .dat (.tup [x, .bool true]) else .dat x) else bif (ok && !z.isAny) then some (.dat (.tup [z, .bool false])) else none
  | .iface t' x => if t' = t then some (bif ok then .tup [x, .dat (.bool true)] else x) else bif (ok && !z.isAny) then some (.dat (.tup [z, .bool false])) else none
  | .dat .nili => bif (ok && !z.isAny) then some (.dat (.tup [z, .bool false])) else none
  | _ => none
def mn2 (mx : Bool) : D → D → Option D
  | .dat (.int k a), .dat (.int k' b) => if k = k' then some (.dat (.int k (bif mx then (if a < b then b else a) else (if b < a then b else a)))) else none
  | _, _ => none
def mnmx (mx : Bool) : D → List D → Option D
  | x, [] => some x
  | x, y :: l => (mn2 mx x y).bind fun z => mnmx mx z l

end Go.Abs

/- The abstract layer, part 4: a world that fits what is known of it; what a call does. No conditions. -/
namespace Go.Abs
open Go.RowKit

/-- What the program's text gives beside the code: its package variables' content, and where the whole began. -/
structure Ctx where
  P : Program
  G : Nat → Dat
  n0 : Nat
  w0 : World

/-- The machine's cells and objects behind a thing. -/
def RB (M : Mem) (r : Ref) (w : World) : Blk → Prop
  | .cells cs => ∃ p, M.place r = some p ∧ p.off = 0 ∧ ∃ a el, w.heap[p.blk]? = some (.cells a el (0, 0)) ∧ a.size = cs.length ∧
      ∀ j d, cs[j]? = some d → M.owner p.blk j = some r ∧ ∃ v, a[j]? = some v ∧ flatV v ∧ VD M d v
  | .arr k _ cs => ∃ p, M.place r = some p ∧ p.k = k ∧ p.off + cs.length ≤ p.lim ∧ ∃ a el, w.heap[p.blk]? = some (.cells a el (0, 0)) ∧ p.lim ≤ a.size ∧
      (∀ j, p.off ≤ j → j < p.lim → M.owner p.blk j = some r) ∧ ∀ j d, cs[j]? = some d → ∃ v, a[p.off + j]? = some v ∧ flatV v ∧ VD M d v
  | .tok k => ∃ p, M.place r = some p ∧ p.k = k ∧ (p.off < p.lim → ∃ a el, w.heap[p.blk]? = some (.cells a el (0, 0)) ∧ p.lim ≤ a.size ∧
      ∀ j, p.off ≤ j → j < p.lim → M.owner p.blk j = some r)
  | .map es => ∃ p, M.place r = some p ∧ M.owner p.blk 0 = some r ∧ ∃ en c, w.heap[p.blk]? = some (.map en c) ∧ en.size = es.length ∧
      (∀ (j : Nat) e k d, en[j]? = some e → es[j]? = some (k, d) → V M k e.key ∧ VD M d e.val) ∧
      (∀ (i j : Nat) e e', en[i]? = some e → en[j]? = some e' → i < j → e.born < e'.born) ∧ ∀ (j : Nat) e, en[j]? = some e → e.born < c
  | .mapl es q seen => ∃ p, M.place r = some p ∧ M.owner p.blk 0 = some r ∧ ∃ en c, w.heap[p.blk]? = some (.map en c) ∧ en.size = es.length ∧
      (∀ (j : Nat) e k d, en[j]? = some e → es[j]? = some (k, d) → V M k e.key ∧ VD M d e.val) ∧
      (∀ (i j : Nat) e e', en[i]? = some e → en[j]? = some e' → i < j → e.born < e'.born) ∧ (∀ (j : Nat) e, en[j]? = some e → e.born < c) ∧
      ∃ p', M.place q = some p' ∧ M.owner p'.blk 0 = some r ∧ ∃ sn : Array Nat, w.heap[p'.blk]? = some (.mapIter (some p.blk) c sn c) ∧ sn.toList = seen.map (fun i => (en[i]?.map (·.born)).getD 0) ∧ seen.Nodup ∧ ∀ i ∈ seen, i < es.length
  | .ctr n => ∃ l, r = .ctr l ∧ ∀ s i, n ≤ i → M.place (.v l s i) = none
  | .obj o => ∃ b, r = .obj b ∧ w.heap[b]? = some o ∧ o.isCells = false ∧ M.owner b 0 = some r
  | .loop o tm => ∃ b, r = .obj b ∧ w.heap[b]? = some (.loop o) ∧ M.owner b 0 = some r ∧ ∀ t, VD M (tmGet tm t) (o.tmps.getD t undef)

/-- A world that fits. -/
structure RS (C : Ctx) (M : Mem) (g : Ref → Option Blk) (w : World) : Prop where
  known : ∀ b o v, M.known b o = some v → w.cell? ⟨b, o, none⟩ = some v ∧ M.owner b o = none
  own : ∀ b o r, M.owner b o = some r → b < w.heap.size ∧ C.n0 ≤ b
  blk : ∀ r x, g r = some x → RB M r w x
  nf : ∀ l, M.nf ≤ l → g (.ctr l) = none ∧ ∀ s i, M.place (.v l s i) = none
  plc : ∀ r x, g r = some x → (∃ l s i, r = .v l s i) → M.place r ≠ none
  plv : ∀ r p, M.place r = some p → ∃ l s i, r = .v l s i
  glob : ∀ n, V M (C.G n) (.pointer (some ⟨n, 0, none⟩))
  low : Below C.n0 C.w0 w
  n0 : C.n0 ≤ w.heap.size ∧ M.hs ≤ w.heap.size

/-- How a call ends, at the machine. -/
inductive MRes where
  | ret (v : Value)
  | pan (chain : List PanicEntry)

def MRes.fin (c : Frame) (cs : List Frame) (w : World) : MRes → Machine
  | .ret v => lone (c.finish v) cs w
  | .pan chain => lone (c.raise chain) cs w

/-- What the machine does with what a call has become. -/
def Goes (P : Program) (c : Frame) (cs : List Frame) (R : MRes → World → Prop) : Next → World → Prop
  | .value v, w => R (.ret v) w
  | .enter f args, w => ∃ r w', R r w' ∧ Steps P (lone (Frame.enter P f args .normal) (c :: cs) w) (r.fin c cs w')
  | .round l f tmps a b, w => ∃ r w', R r w' ∧ Steps P (lone (Frame.round l f tmps a b .normal) (c :: cs) w) (r.fin c cs w')
  | _, _ => False

def RRel (M : Mem) : Res → MRes → Prop
  | .ret d, .ret v => VD M d v
  | .pan d, .pan chain => ∃ v, chain = [{ v, recovered := false }] ∧ VD M d v
  | _, _ => False

/-- What is known of some things lies in the whole. -/
def Own.has (S : Own) (r : Ref) : Prop := ownGet S r ≠ none
abbrev OwnF := Ref → Option Blk
def OwnF.within (S g : OwnF) : Prop := ∀ r b, S r = some b → g r = some b

/-- What happened: more is known; things that were not handed over are as they were; what is handed back was handed over, or is new. -/
structure Went (C : Ctx) (M M' : Mem) (g g' : OwnF) (w' : World) (S S' : OwnF) : Prop where
  le : M.le M'
  rs : RS C M' g' w'
  within : S'.within g'
  frame : ∀ q b, g q = some b → S q = none → g' q = some b
  keys : ∀ q, S' q ≠ none → S q ≠ none ∨ g q = none

/-- A call of a function value: in each world that fits, it ends as told. -/
def CallV (C : Ctx) (fv : D) (args : List D) (S : OwnF) (Q : Res → OwnF → Prop) : Prop :=
  ∀ M g w (f : Value) (vs : List Value), RS C M g w → S.within g → VD M fv f → VDl M args vs →
    ∃ nx w1, (do let d ← Deferred.ofValue f vs.toArray; invoke d.target d.args : Sem Next).run C.P w = .ok nx w1 ∧
      ∀ c cs, Goes C.P c cs (fun mr w' => ∃ M' g' r S', Went C M M' g g' w' S S' ∧ RRel M' r mr ∧ Q r S') nx w1

theorem CallV.mono {C : Ctx} {fv : D} {args : List D} {S : OwnF} {Q Q' : Res → OwnF → Prop} (h : CallV C fv args S Q) (k : ∀ r S', Q r S' → Q' r S') : CallV C fv args S Q' := by
  intro M g w f vs h1 h2 h3 h4
  obtain ⟨nx, w1, h5, h6⟩ := h M g w f vs h1 h2 h3 h4
  refine ⟨nx, w1, h5, fun c cs => ?_⟩
  have := h6 c cs
  cases nx <;> simp only [Goes] at this ⊢
  · obtain ⟨M', g', r, S', a, b, d⟩ := this; exact ⟨M', g', r, S', a, b, k _ _ d⟩
  · obtain ⟨r, w', ⟨M', g', r', S', a, b, d⟩, e⟩ := this; exact ⟨r, w', ⟨M', g', r', S', a, b, k _ _ d⟩, e⟩
  · obtain ⟨r, w', ⟨M', g', r', S', a, b, d⟩, e⟩ := this; exact ⟨r, w', ⟨M', g', r', S', a, b, k _ _ d⟩, e⟩

/-- What a frame knows, against the whole. -/
structure SR (g : OwnF) (ℓ : Nat) (st : St) : Prop where
  own : ∀ r b, ownGet st.own r = some b → g r = some b
  out : ∀ r b, st.out r = some b → g r = some b
  apart : ∀ r, st.own.has r → st.out r = none
  ctr : g (.ctr ℓ) = some (.ctr st.next)
  noctr : ¬ st.own.has (.ctr ℓ) ∧ st.out (.ctr ℓ) = none

/-- From one state to another one: things that were not the frame's are as they were; what it knows of was known, or is new. -/
structure Moved (g g' : OwnF) (ℓ : Nat) (st st' : St) : Prop where
  frame : ∀ q b, g q = some b → ¬ st.own.has q → st.out q = none → q ≠ .ctr ℓ → g' q = some b
  keys : ∀ q, st'.own.has q ∨ st'.out q ≠ none → (st.own.has q ∨ st.out q ≠ none) ∨ g q = none

/-- The same moment, told otherwise: wherever the one state fits, the other one does. -/
def Sh (C : Ctx) (ℓ : Nat) (st st' : St) : Prop :=
  st'.df = st.df ∧ ∀ M g w (tv : Nat → Value), RS C M g w → SR g ℓ st → (∀ t, VD M (tmGet st.tm t) (tv t)) →
    ∃ M' g', M.le M' ∧ RS C M' g' w ∧ SR g' ℓ st' ∧ Moved g g' ℓ st st' ∧ ∀ t, VD M' (tmGet st'.tm t) (tv t)

end Go.Abs

/- The abstract layer, part 5: weakest preconditions of the small form. No conditions. -/
namespace Go.Abs

/-! ### Operations that make and change nothing of the frame's own -/

def bfill (k : Nat) : List Dat → List (Nat × Option Dat) → Option (List Dat)
  | xs, [] => some xs
  | xs, (i, some x) :: ps => if k ≠ 0 ∧ x.cells.length = k ∧ i < xs.length then bfill k (xs.set i x) ps else none
  | _, (_, none) :: _ => none
def zeroElem (agg : Bool) (z : List Dat) : Dat := bif agg then .agg z else z.headD .any

def evR (get : Ref → Option Blk) (v : Opd → D) : IOp → Option D
  | .mv x => some (v x)
  | .pick c a b => pickD (v a) (v b) (v c)
  | .build z ps => bif z.isEmpty then none else (putParts (z.map .dat) (ps.map fun p => (p.1, p.2.1, v p.2.2))).map mkAgg
  | .bslice false k g z n ps => if k ≠ 0 ∧ n * k ≤ 16777216 ∧ (n = 0 ∨ (z.length = k ∧ (g = true ∨ k = 1))) then (bfill k (List.replicate n (zeroElem g z)) (ps.map fun p => (p.1, (v p.2).elem))).map fun l => .dat (.list l (decide (n = 0))) else none
  | .load g n a => loadD get g n (v a)
  | .nilck x => nilckD (v x)
  | .bin op x y => binD op (v x) (v y)
  | .eqs neg ks x y => eqsD neg ks (v x) (v y)
  | .eqb neg x y => eqbD neg (v x) (v y)
  | .un op x => unD op (v x)
  | .convi k x => conviD k (v x)
  | .mkif t x => some (mkIface t (v x))
  | .mkfn f a b => some (.fn f (a.map v) (b.map v))
  | .slice k x lo hi mx => sliceD get k (lo.map v) (hi.map v) (mx.map v) (v x)
  | .sslice x lo hi => ssliceD (lo.map v) (hi.map v) (v x)
  | .faddr o x => faddrD o (v x)
  | .field g o n x => fieldD g o n (v x)
  | .iaddr k x i => iaddrD get k (v x) (v i)
  | .aaddr k n x i => aaddrD k n (v x) (v i)
  | .idxs x i => idxsD (v x) (v i)
  | .lookup q z ok m k => bif z.isAny then none else lookupD get q z ok (v m) (v k)
  | .tass t z ok x => tassD t z ok (v x)
  | .ext x i => extD i (v x)
  | .blen k x => lenD get k (v x)
  | .mnmx mx (x :: xs) => mnmx mx (v x) (xs.map v)
  | _ => none

/-! ### Operations that make something, or change what was made -/

def mostLen : Nat := 4294967296
/-- Cells of an array's part as elements. -/
def toElems (g : Bool) (k : Nat) : Nat → List D → Option (List Dat)
  | 0, _ => some []
  | n + 1, cs => match dats (cs.take k), toElems g k n (cs.drop k) with
    | some xs, some l => some (zeroElem g xs :: l)
    | _, _ => none
/-- What an append takes: the elements of its second operand. -/
def appElems (get : Ref → Option Blk) (k : Nat) : D → Option (List Dat)
  | .dat (.list ys _) => if strideOk k ys then some ys else none
  | .lst ys _ => if strideOk k ys then some ys else none
  | .arr r off len => match get r with
    | some (.arr k' g cs) => if k = k' ∧ (g = true ∨ k = 1) ∧ (off + len) * k ≤ cs.length then toElems g k len (cs.drop (off * k)) else none
    | _ => none
  | _ => none
def elemCells (ys : List Dat) : List D := (ys.map Dat.cells).flatten.map .dat
/-- The cells of a slice, and how many elements these are. -/
def appCells (get : Ref → Option Blk) (k : Nat) : D → Option (List D × Nat)
  | .dat (.list ys _) => if strideOk k ys then some (elemCells ys, ys.length) else none
  | .lst ys _ => if strideOk k ys then some (elemCells ys, ys.length) else none
  | .arr r off len => match get r with
    | some (.arr k' _ cs) => if k = k' ∧ (off + len) * k ≤ cs.length then some ((cs.drop (off * k)).take (len * k), len) else none
    | _ => none
  | _ => none

def storeSt (st : St) (n : Nat) (x : D) : D → Option St
  | .ptr r off => match st.get r with
    | some (.cells cs) => if n ≠ 0 ∧ x.cells.length = n ∧ off + n ≤ cs.length then some (st.upd r (.cells (setAt cs off x.cells))) else none
    | some (.arr k g cs) => if n ≠ 0 ∧ x.cells.length = n ∧ off + n ≤ cs.length then some (st.upd r (.arr k g (setAt cs off x.cells))) else none
    | _ => none
  | _ => none
def mapsetSt (q : KT) (st : St) : D → D → D → Option St
  | .map r, .dat k, v => match st.get r with
    | some (.map es) => if okKey q k then (mapPut q k v es).map fun es' => st.upd r (.map es') else none
    | _ => none
  | _, _, _ => none
def mapdelSt (q : KT) (st : St) : D → D → Option St
  | .map r, .dat k => match st.get r with
    | some (.map es) => if okKey q k then (mapDel q k es).map fun es' => st.upd r (.map es') else none
    | _ => none
  | _, _ => none
def appendSt (ℓ d : Nat) (st : St) (arr : Bool) (k : Nat) (g : Bool) (x y : D) : Option (D × St) :=
  bif arr then
    (appCells st.get k y).bind fun (ys, n) => match x with
      | .dat (.list [] true) => if n = 0 then some (.dat (.list [] true), st) else if n ≤ mostLen then some (.arr (.v ℓ d st.next) 0 n, st.new ℓ d (.arr k g ys)) else none
      | .arr r off len => match st.get r with
        | some (.arr k' _ cs) => if k = k' ∧ (off + len) * k ≤ cs.length ∧ len + n ≤ mostLen then
            some (.arr (.v ℓ d st.next) 0 (len + n), (st.del r).new ℓ d (.arr k g ((cs.drop (off * k)).take (len * k) ++ ys))) else none
        | _ => none
      | _ => none
  else
    (appElems st.get k y).bind fun ys => match x with
      | .dat (.list xs true) => if strideOk k xs ∧ xs.length + ys.length ≤ mostLen then some (.lst (xs ++ ys) (.v ℓ d st.next), st.new ℓ d (.tok k)) else none
      | .lst xs r => match st.get r with
        | some (.tok k') => if k = k' ∧ xs.length + ys.length ≤ mostLen then some (.lst (xs ++ ys) (.v ℓ d st.next), (st.del r).new ℓ d (.tok k)) else none
        | _ => none
      | _ => none
def fillCells (k : Nat) : List D → List (Nat × D) → Option (List D)
  | z, [] => some z
  | z, (i, x) :: ps => if x.cells.length = k ∧ i * k + k ≤ z.length then fillCells k (setAt z (i * k) x.cells) ps else none
def zeroCells (n : Nat) (z : List Dat) : List D := (List.replicate n (z.map D.dat)).flatten
def copySt (st : St) (k : Nat) (x y : D) : Option (D × St) :=
  match x with
  | .arr r off len => match st.get r with
    | some (.arr k' g cs) => (appCells st.get k y).bind fun (ys, n) =>
        if k = k' ∧ k ≠ 0 ∧ (off + len) * k ≤ cs.length then some (.dat (.int .i64 (min n len)), st.upd r (.arr k g (setAt cs (off * k) (ys.take (min n len * k))))) else none
    | _ => none
  | _ => none
def mksliceSt (ℓ d : Nat) (st : St) (arr : Bool) (k : Nat) (g : Bool) (z : List Dat) : D → D → Option (D × St)
  | .dat (.int _ l), .dat (.int _ c) =>
    if z.length = k ∧ k ≠ 0 ∧ (arr = true ∨ g = true ∨ k = 1) ∧ 0 ≤ l ∧ l = c ∧ l ≤ (mostLen : Nat) then
      bif arr then some (.arr (.v ℓ d st.next) 0 l.toNat, st.new ℓ d (.arr k g (zeroCells l.toNat z)))
      else some (.dat (.list (List.replicate l.toNat (zeroElem g z)) true), st)
    else none
  | _, _ => none
def rangeSt (ℓ d : Nat) (st : St) : D → Option (D × St)
  | .map r => match st.get r with
    | some (.map es) => some (.it r (.v ℓ d st.next), { st.upd r (.mapl es (.v ℓ d st.next) []) with next := st.next + 1 })
    | _ => none
  | _ => none
def entrySt (get : Ref → Option Blk) : D → Option D
  | .it m q => match get m with
    | some (.mapl es q' seen) => if q = q' then (seen.getLast?).bind fun i => (es[i]?).map fun e => mkTup [.dat e.1, e.2] else none
    | _ => none
  | _ => none

def evW (ℓ d : Nat) (st : St) (v : Opd → D) : IOp → Option (D × St)
  | .alloc z => if z = [] then none else some (.ptr (.v ℓ d st.next) 0, st.new ℓ d (.cells (z.map .dat)))
  | .box n x => if (v x).cells.length = n ∧ n ≠ 0 then some (.ptr (.v ℓ d st.next) 0, st.new ℓ d (.cells (v x).cells)) else none
  | .mkmap => some (.map (.v ℓ d st.next), st.new ℓ d (.map []))
  | .store n a x => (storeSt st n (v x) (v a)).map (undefD, ·)
  | .mapset q m k x => (mapsetSt q st (v m) (v k) (v x)).map (undefD, ·)
  | .delete q m k => (mapdelSt q st (v m) (v k)).map (undefD, ·)
  | .append arr k g bytes x y => if bytes ≤ 4096 then appendSt ℓ d st arr k g (v x) (v y) else none
  | .bslice true k g z n ps => if z.length = k ∧ k ≠ 0 ∧ n * k ≤ 16777216 then (fillCells k (zeroCells n z) (ps.map fun p => (p.1, v p.2))).map fun cs => (.arr (.v ℓ d st.next) 0 n, st.new ℓ d (.arr k g cs)) else none
  | .mkslice arr k g z bytes l c => if bytes ≤ 4096 then mksliceSt ℓ d st arr k g z (v l) (v c) else none
  | .copy k x y => copySt st k (v x) (v y)
  | .range x => rangeSt ℓ d st (v x)
  | .entry x => (entrySt st.get (v x)).map (·, st)
  | _ => none
def ev (C : Ctx) (ℓ d : Nat) (st : St) (op : IOp) : Option (D × St) :=
  bif isW op then evW ℓ d st (st.val C.G) op else (evR st.get (st.val C.G) op).map (·, st)

/-! ### Choices, calls -/

/-- A choice that is not known: both ways. -/
def Split (c : Bool) (A B : Prop) : Prop := (c = true → A) ∧ (c = false → B)
def skips : D → Bool → Option Bool
  | .dat (.bool c), b => some (c == b)
  | .dat (.tup []), _ => some false
  | _, _ => none

/-- What a frame knows behind a call. -/
structure After (st : St) (S S' : OwnF) (own' : Own) (out' : OwnF) : Prop where
  own : ∀ r b, ownGet own' r = some b → S' r = some b ∨ (S r = none ∧ ownGet st.own r = some b)
  out : ∀ r b, out' r = some b → S' r = some b ∨ (S r = none ∧ st.out r = some b)
  apart : ∀ r, own'.has r → out' r = none
def OwnF.sub (S : OwnF) (st : St) : Prop := ∀ r b, S r = some b → ownGet st.own r = some b ∨ st.out r = some b
/-- What is sure of what a call hands back. -/
structure Back (ℓ : Nat) (st : St) (S S' : OwnF) : Prop where
  apart : ∀ r, st.own.has r → st.out r = none
  keys : ∀ r, S r = none → st.own.has r ∨ st.out r ≠ none → S' r = none
  fresh : ∀ s i, st.next ≤ i → S' (.v ℓ s i) = none
def callK (ℓ : Nat) (st : St) (S : OwnF) (K : D → St → Prop) (Q : Ex → St → Prop) : Res → OwnF → Prop
  | .ret v, S' => Back ℓ st S S' → ∃ own' out', After st S S' own' out' ∧ K v { st with own := own', out := out' }
  | .pan d, S' => Back ℓ st S S' → ∃ own' out', After st S S' own' out' ∧ Q (.pan d) { st with own := own', out := out' }
/-- A call that is handed nothing: the frame is as it was. -/
def plainK (st : St) (K : D → St → Prop) (Q : Ex → St → Prop) : Res → OwnF → Prop
  | .ret v, _ => K v st
  | .pan d, _ => Q (.pan d) st
def noneF : OwnF := fun _ => none
def callW (C : Ctx) (ℓ : Nat) (f : Opd) (args : List Opd) (st : St) (K : D → St → Prop) (Q : Ex → St → Prop) : Prop :=
  CallV C (st.val C.G f) (args.map fun a => (st.val C.G a).arg) noneF (plainK st K Q) ∨
  ∃ st1, Sh C ℓ st st1 ∧ ∃ S : OwnF, S.sub st1 ∧ CallV C (st1.val C.G f) (args.map fun a => (st1.val C.G a).arg) S (callK ℓ st1 S K Q)

/-- One step of a range over a map: any entry that was not met. -/
def nextW (st : St) (K : D → St → Prop) : D → Prop
  | .it m q => match st.get m with
    | some (.mapl es q' seen) => q = q' ∧
        (seen.length = es.length → K (.dat (.tup [.bool false])) st) ∧
        (seen.length < es.length → ∀ i k d, es[i]? = some (k, d) → i ∉ seen → K (mkTup [.dat (.bool true), .dat k, d]) (st.upd m (.mapl es q (seen ++ [i]))))
    | _ => False
  | _ => False

def isIface : D → Bool
  | .dat (.iface _ _) => true
  | .iface _ _ => true
  | _ => false

def isFn : D → Bool
  | .dat (.fn _ _ _) => true
  | .fn _ _ _ => true
  | _ => false

/-- One operation; K tells of what comes behind it. -/
def execW (C : Ctx) (ℓ d : Nat) (op : IOp) (st : St) (K : D → St → Prop) (Q : Ex → St → Prop) : Prop :=
  match op with
  | .call f args => callW C ℓ f args st K Q
  | .panic x => isIface (st.val C.G x) = true ∧ Q (.pan (st.val C.G x)) st
  | .next x => nextW st K (st.val C.G x)
  | .defer f args => isFn (st.val C.G f) = true ∧ K undefD { st with df := (st.val C.G f, args.map (st.val C.G)) :: st.df }
  | op => match ev C ℓ d st op with
    | some (v, st') => K v st'
    | none => False

def wpOps (C : Ctx) (ℓ : Nat) : List IOper → St → (Ex → St → Prop) → Prop
  | [], st, Q => Q .normal st
  | ⟨d, none, op⟩ :: r, st, Q => execW C ℓ (d.getD 0) op st (fun v st' => wpOps C ℓ r (st'.put d v) Q) Q
  | ⟨d, some (t, b), op⟩ :: r, st, Q => match skips (tmGet st.tm t) b with
    | some c => Split c (execW C ℓ (d.getD 0) op st (fun v st' => wpOps C ℓ r (st'.put d v) Q) Q) (wpOps C ℓ r (st.put d undefD) Q)
    | none => False

/-- An operation of a row whose order is left open; rd: what was read and is to be looked at again stands behind each operation that makes something. -/
def drawX (C : Ctx) (ℓ : Nat) (rd : OwnF → Prop) (chk : Bool) (d : Option Nat) (op : IOp) (st : St) (K : (OwnF → Prop) → St → Prop) : Prop :=
  bif isW op then match evW ℓ (d.getD 0) st (st.val C.G) op with
    | some (v, st') => rd st'.get ∧ K rd (st'.put d v)
    | none => False
  else match op with
    | .call f args => CallV C (st.val C.G f) (args.map fun a => (st.val C.G a).arg) noneF (fun q _ => match q with | .ret v => K rd (st.put d v) | .pan _ => False)
    | op => match evR st.get (st.val C.G) op with
      | some v => K (bif chk then (fun get => rd get ∧ evR get (st.val C.G) op = some v) else rd) (st.put d v)
      | none => False
def drawS (C : Ctx) (ℓ : Nat) (rd : OwnF → Prop) (d : DOp) (st : St) (K : (OwnF → Prop) → St → Prop) : Prop :=
  match d.io.grd with
  | none => drawX C ℓ rd d.chk d.io.dst d.io.op st K
  | some (t, b) => match skips (tmGet st.tm t) b with
    | some c => Split c (drawX C ℓ rd d.chk d.io.dst d.io.op st K) (K rd (st.put d.io.dst undefD))
    | none => False
def wpDraw (C : Ctx) (ℓ : Nat) (Q : Ex → St → Prop) : (OwnF → Prop) → List DOp → St → Prop
  | _, [], st => Q .normal st
  | rd, d :: r, st => drawS C ℓ rd d st (fun rd' st' => wpDraw C ℓ Q rd' r st')

/-! ### Code -/

def loopN (C : Ctx) (ℓ : Nat) (W : St → (Ex → St → Prop) → Prop) : Nat → St → (Ex → St → Prop) → Prop
  | 0, _, _ => False
  | n + 1, st, Q => ∃ st0, Sh C ℓ st st0 ∧ W st0 (fun e s => match e with | .normal => loopN C ℓ W n s Q | e => Q e s)
/-- Calls of a function that takes what is yielded. Q tells of the end: with what it panicked, if it did. -/
def RunV (C : Ctx) (y : D) : List (List D) → OwnF → (Option D → OwnF → Prop) → Prop
  | [], S, Q => Q none S
  | x :: xs, S, Q => CallV C y x S (fun r S' => match r with
    | .ret (.dat (.bool true)) => RunV C y xs S' Q
    | .ret (.dat (.bool false)) => Q none S'
    | .ret _ => False
    | .pan d => Q (some d) S')
/-- What the one or the other knows. -/
def orF (S K : OwnF) : OwnF := fun r => match S r with | some b => some b | none => K r
/-- A function that yields one of some lists; K: what it alone looks at, and leaves as it was. -/
def IterV (C : Ctx) (fv : D) (K : OwnF) (X : List (List D) → Prop) : Prop :=
  ∀ y S Q, (∀ r, K r ≠ none → S r = none) → (∀ xs, X xs → RunV C y xs S Q) → CallV C fv [y] (orF S K) (fun r S' => match r with
    | .ret _ => ∃ S1, S' = orF S1 K ∧ (∀ r, K r ≠ none → S1 r = none) ∧ Q none S1
    | .pan d => ∃ S1, S' = orF S1 K ∧ (∀ r, K r ≠ none → S1 r = none) ∧ Q (some d) S1)
def setPs (tm : List (Nat × D)) : List Nat → List D → List (Nat × D)
  | p :: ps, x :: xs => setPs ((p, x) :: tm) ps xs
  | _, _ => tm
def rounds (C : Ctx) (ℓ : Nat) (Wa Wb : St → (Ex → St → Prop) → Prop) (ps : List Nat) (tm0 : List (Nat × D)) : List (List D) → St → (Ex → St → Prop) → Prop
  | [], st, Q => Q .normal { st with tm := tm0 }
  | x :: xs, st, Q => x.length = ps.length ∧ ∃ st1, Sh C ℓ { st with tm := setPs tm0 ps x } st1 ∧
      Wa st1 (fun e st2 => match e with
        | .normal => Wb st2 (fun e st3 => match e with
          | .normal => rounds C ℓ Wa Wb ps tm0 xs { st3 with df := [] } Q
          | .pan d => st3.df = [] ∧ Q (.pan d) { st3 with tm := tm0 }
          | .ret => Q .ret { st3 with tm := tm0 }
          | .exit id => Q (.exit id) { st3 with tm := tm0 })
        | _ => False)
/-- A state without what an iterator alone looks at. -/
structure Apart (st : St) (K : OwnF) (st1 : St) : Prop where
  sub : K.sub st
  tm : st1.tm = st.tm
  next : st1.next = st.next
  df : st1.df = []
  own : ∀ r b, ownGet st1.own r = some b → ownGet st.own r = some b ∧ K r = none
  out : ∀ r b, st1.out r = some b → st.out r = some b ∧ K r = none
/-- .. and with it again. -/
structure Joined (df : List (D × List D)) (st2 : St) (K : OwnF) (st3 : St) : Prop where
  tm : st3.tm = st2.tm
  next : st3.next = st2.next
  df : st3.df = df
  own : ∀ r b, ownGet st3.own r = some b → ownGet st2.own r = some b ∨ K r = some b
  out : ∀ r b, st3.out r = some b → st2.out r = some b ∨ K r = some b
  apart : ∀ r, st3.own.has r → st3.out r = none
def wp (C : Ctx) (ℓ : Nat) : IR → St → (Ex → St → Prop) → Prop
  | .ops l, st, Q => wpOps C ℓ l st Q
  | .draw l, st, Q => wpDraw C ℓ Q (fun _ => True) l st
  | .seq k a b, st, Q => wp C ℓ a st (fun e st' => match e with | .normal => wp C ℓ b (st'.keep k) Q | e => Q e st')
  | .cond c a b, st, Q => match st.val C.G c with
    | .dat (.bool t) => Split t (wp C ℓ a st Q) (wp C ℓ b st Q)
    | _ => False
  | .block id b, st, Q => wp C ℓ b st (fun e st' => match e with | .exit j => if j = id then Q .normal st' else Q (.exit j) st' | e => Q e st')
  | .loop b, st, Q => ∃ n, loopN C ℓ (wp C ℓ b) n st Q
  | .rangef f ps a b, st, Q => ∃ (K : OwnF) (st1 : St) (X : List (List D) → Prop), Apart st K st1 ∧ IterV C (st.val C.G f) K X ∧ ∀ xs, X xs → rounds C ℓ (wp C ℓ a) (wp C ℓ b) ps st.tm xs st1 (fun e st2 => ∃ st3, Joined st.df st2 K st3 ∧ Q e st3)
  | .exit id, st, Q => Q (.exit id) st
  | .ret, st, Q => Q .ret st
  | .skip, st, Q => Q .normal st

end Go.Abs

/- The abstract layer, part 6: small facts on data and values. No conditions. -/
namespace Go.Abs

theorem dats_some : ∀ (l : List D) (xs : List Dat), dats l = some xs → l = xs.map .dat
  | [], xs, h => by simp [dats] at h; subst h; rfl
  | d :: l, xs, h => by
    cases d <;> simp only [dats, D.dat?] at h <;> try (simp at h)
    rename_i x
    cases e : dats l with
    | none => rw [e] at h; simp at h
    | some ys => rw [e] at h; simp at h; subst h; rw [dats_some l ys e]; rfl

theorem VDl_dat (M : Mem) : ∀ (xs : List Dat) (vs : List Value), VDl M (xs.map .dat) vs ↔ Vl M xs vs
  | [], [] => by simp [VDl, Vl]
  | [], _ :: _ => by simp [VDl, Vl]
  | _ :: _, [] => by simp [VDl, Vl]
  | x :: xs, v :: vs => by
    simp only [List.map_cons, VDl, Vl, VDl_dat M xs vs, VD]

theorem VDl_get {M : Mem} : ∀ {ds : List D} {vs : List Value}, VDl M ds vs → ds.length = vs.length ∧ ∀ (j : Nat) d, ds[j]? = some d → ∃ v, vs[j]? = some v ∧ VD M d v
  | [], [], _ => ⟨rfl, fun j d h => by simp at h⟩
  | [], _ :: _, h => by simp [VDl] at h
  | _ :: _, [], h => by simp [VDl] at h
  | x :: xs, v :: vs, h => by
    simp only [VDl] at h
    obtain ⟨h1, h2⟩ := VDl_get h.2
    refine ⟨by simp [h1], fun j d hj => ?_⟩
    cases j with
    | zero => simp at hj; subst hj; exact ⟨v, by simp, h.1⟩
    | succ j => simpa using h2 j d (by simpa using hj)
theorem VDl_of {M : Mem} : ∀ {ds : List D} {vs : List Value}, ds.length = vs.length → (∀ (j : Nat) d v, ds[j]? = some d → vs[j]? = some v → VD M d v) → VDl M ds vs
  | [], [], _, _ => by simp [VDl]
  | [], _ :: _, h, _ => by simp at h
  | _ :: _, [], h, _ => by simp at h
  | x :: xs, v :: vs, h, k => by
    simp only [VDl]
    exact ⟨k 0 x v (by simp) (by simp), VDl_of (by simpa using h) fun j d v h1 h2 => k (j + 1) d v (by simpa using h1) (by simpa using h2)⟩
theorem VDl_append {M : Mem} : ∀ {ds es : List D} {vs us : List Value}, VDl M ds vs → VDl M es us → VDl M (ds ++ es) (vs ++ us)
  | [], _, [], _, _, h => h
  | [], _, _ :: _, _, h, _ => by simp [VDl] at h
  | _ :: _, _, [], _, h, _ => by simp [VDl] at h
  | x :: xs, _, v :: vs, _, h, k => by
    simp only [VDl, List.cons_append] at *
    exact ⟨h.1, VDl_append h.2 k⟩
theorem Vl_get {M : Mem} {ds : List Dat} {vs : List Value} (h : Vl M ds vs) : ds.length = vs.length ∧ ∀ (j : Nat) d, ds[j]? = some d → ∃ v, vs[j]? = some v ∧ V M d v := by
  obtain ⟨h1, h2⟩ := VDl_get ((VDl_dat M ds vs).2 h)
  refine ⟨by simpa using h1, fun j d hj => ?_⟩
  obtain ⟨v, h3, h4⟩ := h2 j (.dat d) (by simp [hj])
  exact ⟨v, h3, by simpa [VD] using h4⟩

theorem mkAgg_ok {M : Mem} {l : List D} {vs : List Value} (h : VDl M l vs) (hf : ∀ x ∈ vs, flatV x) : VD M (mkAgg l) (.agg vs.toArray) := by
  unfold mkAgg
  cases e : dats l with
  | none => simp only [VD]; exact ⟨_, rfl, by simpa using h, by simpa using hf⟩
  | some xs =>
    have := dats_some l xs e
    subst this
    simp only [VD, V]
    exact ⟨_, rfl, by simpa using (VDl_dat M xs vs).1 h, by simpa using hf⟩
theorem mkTup_ok {M : Mem} {l : List D} {vs : List Value} (h : VDl M l vs) : VD M (mkTup l) (.tuple vs.toArray) := by
  unfold mkTup
  cases e : dats l with
  | none => simp only [VD]; exact ⟨_, rfl, by simpa using h⟩
  | some xs =>
    have := dats_some l xs e
    subst this
    simp only [VD, V]
    exact ⟨_, rfl, by simpa using (VDl_dat M xs vs).1 h⟩
theorem mkIface_ok {M : Mem} {d : D} {v : Value} (t : Nat) (h : VD M d v) : VD M (mkIface t d) (.iface t v) := by
  unfold mkIface
  cases d with
  | dat x => simp only [D.dat?, VD, V] at *; exact ⟨v, rfl, h⟩
  | _ => simp only [D.dat?]; unfold VD; exact ⟨v, rfl, h⟩

/-- Cells that are read. -/
def Cs (M : Mem) (rd : Nat → Option Value) (cs : List D) : Prop := ∀ (j : Nat) c, cs[j]? = some c → ∃ x, rd j = some x ∧ flatV x ∧ VD M c x

theorem V_cells {M : Mem} {x : Dat} {v : Value} (h : V M x v) (hc : x.cells ≠ []) : x.cells.length = v.cells.size ∧ Cs M (fun j => v.cells[j]?) (x.cells.map .dat) := by
  have one : ∀ {y : Dat} {u : Value}, V M y u → flatV u → u.cells = #[u] → y.cells = [y] → y.cells.length = u.cells.size ∧ Cs M (fun j => u.cells[j]?) (y.cells.map .dat) := by
    intro y u hy hf hu hyc
    rw [hyc, hu]
    refine ⟨rfl, fun j c hj => ?_⟩
    cases j with
    | zero => simp at hj; subst hj; exact ⟨u, by simp, hf, by simpa [VD] using hy⟩
    | succ j => simp at hj
  cases x with
  | any => simp [Dat.cells] at hc
  | tup l => simp [Dat.cells] at hc
  | agg cs =>
    simp only [V] at h
    obtain ⟨a, rfl, h1, h2⟩ := h
    obtain ⟨h3, h4⟩ := Vl_get h1
    refine ⟨by simpa [Dat.cells, Value.cells] using h3, fun j c hj => ?_⟩
    simp only [Dat.cells, List.getElem?_map, Option.map_eq_some_iff] at hj
    obtain ⟨d, hd, rfl⟩ := hj
    obtain ⟨u, hu, hv⟩ := h4 j d hd
    refine ⟨u, by simpa [Value.cells] using hu, h2 u ?_, by simpa [VD] using hv⟩
    exact List.mem_of_getElem? hu
  | bool b => have h' := h; simp only [V] at h'; subst h'; exact one h trivial rfl rfl
  | int k n => have h' := h; simp only [V] at h'; subst h'; exact one h trivial rfl rfl
  | str s => have h' := h; simp only [V] at h'; subst h'; exact one h trivial rfl rfl
  | list xs f => have h' := h; simp only [V] at h'; obtain ⟨_, _, _, rfl, _⟩ := h'; exact one h trivial rfl rfl
  | ptr cs o => have h' := h; simp only [V] at h'; obtain ⟨_, _, rfl, _⟩ := h'; exact one h trivial rfl rfl
  | nilp => have h' := h; simp only [V] at h'; subst h'; exact one h trivial rfl rfl
  | nilmap => have h' := h; simp only [V] at h'; subst h'; exact one h trivial rfl rfl
  | fn f a b => have h' := h; simp only [V] at h'; obtain ⟨_, _, rfl, _⟩ := h'; exact one h trivial rfl rfl
  | nilfn => have h' := h; simp only [V] at h'; subst h'; exact one h trivial rfl rfl
  | iface t y => have h' := h; simp only [V] at h'; obtain ⟨_, rfl, _⟩ := h'; exact one h trivial rfl rfl
  | nili => have h' := h; simp only [V] at h'; subst h'; exact one h trivial rfl rfl

theorem VD_cells {M : Mem} {d : D} {v : Value} (h : VD M d v) (hc : d.cells ≠ []) : d.cells.length = v.cells.size ∧ Cs M (fun j => v.cells[j]?) d.cells := by
  have one : ∀ {y : D} {u : Value}, VD M y u → flatV u → u.cells = #[u] → y.cells = [y] → y.cells.length = u.cells.size ∧ Cs M (fun j => u.cells[j]?) y.cells := by
    intro y u hy hf hu hyc
    rw [hyc, hu]
    refine ⟨rfl, fun j c hj => ?_⟩
    cases j with
    | zero => simp at hj; subst hj; exact ⟨u, by simp, hf, hy⟩
    | succ j => simp at hj
  cases d with
  | dat x =>
    simp only [VD] at h
    obtain ⟨h1, h2⟩ := V_cells h (by intro e; simp [D.cells, e] at hc)
    exact ⟨by simpa [D.cells] using h1, by simpa [D.cells] using h2⟩
  | tup l => simp [D.cells] at hc
  | agg cs =>
    simp only [VD] at h
    obtain ⟨a, rfl, h1, h2⟩ := h
    obtain ⟨h3, h4⟩ := VDl_get h1
    refine ⟨by simpa [D.cells, Value.cells] using h3, fun j c hj => ?_⟩
    obtain ⟨u, hu, hv⟩ := h4 j c (by simpa [D.cells] using hj)
    exact ⟨u, by simpa [Value.cells] using hu, h2 u (List.mem_of_getElem? hu), hv⟩
  | lst xs r => have h' := h; simp only [VD] at h'; obtain ⟨_, _, _, _, rfl, _⟩ := h'; exact one h trivial rfl rfl
  | arr r o n => have h' := h; simp only [VD] at h'; obtain ⟨_, _, rfl, _⟩ := h'; exact one h trivial rfl rfl
  | ptr r o => have h' := h; simp only [VD] at h'; obtain ⟨_, _, rfl⟩ := h'; exact one h trivial rfl rfl
  | map r => have h' := h; simp only [VD] at h'; obtain ⟨_, _, rfl⟩ := h'; exact one h trivial rfl rfl
  | it m r => have h' := h; simp only [VD] at h'; obtain ⟨_, _, rfl⟩ := h'; exact one h trivial rfl rfl
  | fn f a b => have h' := h; simp only [VD] at h'; obtain ⟨_, _, rfl, _⟩ := h'; exact one h trivial rfl rfl
  | yld r => have h' := h; simp only [VD] at h'; obtain ⟨_, _, rfl⟩ := h'; exact one h trivial rfl rfl
  | iface t y => have h' := h; simp only [VD] at h'; obtain ⟨_, rfl, _⟩ := h'; exact one h trivial rfl rfl

/-- Reading a value out of cells. -/
theorem ld_ok {M : Mem} {rd : Nat → Option Value} {cs : List D} (h : Cs M rd cs) {agg : Bool} {n off : Nat} {d : D} (hl : ld agg n off cs = some d) :
    (agg = true → ∃ vs : List Value, vs.length = n ∧ (∀ j, j < n → rd (off + j) = vs[j]?) ∧ VD M d (.agg vs.toArray)) ∧ (agg = false → n = 1 ∧ ∃ v, rd off = some v ∧ flatV v ∧ VD M d v) := by
  unfold ld at hl
  split at hl
  case isFalse => simp at hl
  rename_i hle
  constructor
  · rintro rfl
    simp at hl
    subst hl
    have key : ∀ m, m ≤ n → ∃ vs : List Value, vs.length = m ∧ (∀ j, j < m → rd (off + j) = vs[j]?) ∧ (∀ x ∈ vs, flatV x) ∧ VDl M ((cs.drop off).take m) vs := by
      intro m
      induction m with
      | zero => intro _; exact ⟨[], rfl, fun j hj => by omega, by simp, by simp [VDl]⟩
      | succ m ih =>
        intro hm
        obtain ⟨vs, h1, h2, h3, h4⟩ := ih (by omega)
        have hlt : off + m < cs.length := by omega
        obtain ⟨x, hx, hf, hv⟩ := h (off + m) cs[off + m] (List.getElem?_eq_getElem hlt)
        refine ⟨vs ++ [x], by simp [h1], fun j hj => ?_, ?_, ?_⟩
        · by_cases e : j = m
          · subst e; rw [hx, ← h1]; simp
          · rw [h2 j (by omega), List.getElem?_append_left (by omega)]
        · intro y hy; rw [List.mem_append] at hy; rcases hy with hy | hy
          · exact h3 y hy
          · simp at hy; subst hy; exact hf
        · rw [List.take_succ_eq_append_getElem (by simp; omega)]
          refine VDl_append h4 ?_
          simp only [VDl, and_true]
          simpa [List.getElem_drop] using hv
    obtain ⟨vs, h1, h2, h3, h4⟩ := key n (Nat.le_refl _)
    exact ⟨vs, h1, h2, mkAgg_ok h4 h3⟩
  · rintro rfl
    simp only [cond_false] at hl
    cases e : (n == 1) with
    | false => rw [e] at hl; simp at hl
    | true =>
      rw [e] at hl; simp at hl
      obtain ⟨v, h1, h2, h3⟩ := h off d hl
      exact ⟨by simpa using e, v, h1, h2, h3⟩

theorem Vc_cs {M : Mem} : ∀ {cs : List Dat} {b o : Nat}, Vc M cs b o → Cs M (fun j => M.known b (o + j)) (cs.map .dat)
  | [], _, _, _ => fun j c hj => by simp at hj
  | x :: xs, b, o, h => by
    simp only [Vc] at h
    obtain ⟨⟨v, h1, h2, h3⟩, h4⟩ := h
    intro j c hj
    cases j with
    | zero => simp at hj; subst hj; exact ⟨v, h3, h2, by simpa [VD] using h1⟩
    | succ j =>
      obtain ⟨u, hu, hf, hv⟩ := Vc_cs h4 j c (by simpa using hj)
      refine ⟨u, ?_, hf, hv⟩
      have hu' : M.known b (o + 1 + j) = some u := hu
      show M.known b (o + (j + 1)) = some u
      rw [← hu']; congr 1; omega
theorem Vc_of {M : Mem} : ∀ {cs : List Dat} {b o : Nat}, (∀ (j : Nat) c, cs[j]? = some c → ∃ v, M.known b (o + j) = some v ∧ flatV v ∧ V M c v) → Vc M cs b o
  | [], _, _, _ => by simp [Vc]
  | x :: xs, b, o, h => by
    simp only [Vc]
    obtain ⟨v, h1, h2, h3⟩ := h 0 x (by simp)
    refine ⟨⟨v, h3, h2, by simpa using h1⟩, Vc_of fun j c hj => ?_⟩
    obtain ⟨u, hu, hf, hv⟩ := h (j + 1) c (by simpa using hj)
    refine ⟨u, ?_, hf, hv⟩
    rw [← hu]; congr 1; omega

/-- An element, out of a list in memory. -/
theorem Vs_get {M : Mem} {k : Nat} : ∀ {xs : List Dat} {b o : Nat}, Vs M k xs b o → ∀ (i : Nat) x, xs[i]? = some x → ∃ v, V M x v ∧ v.cells.size = k ∧ (∀ c ∈ v.cells.toList, flatV c) ∧ ∀ j, j < k → M.known b (o + i * k + j) = v.cells[j]?
  | [], _, _, _, i, x, hi => by simp at hi
  | y :: xs, b, o, h, i, x, hi => by
    simp only [Vs] at h
    cases i with
    | zero => simp at hi; subst hi; simpa using h.1
    | succ i =>
      obtain ⟨v, h1, h2, h3, h4⟩ := Vs_get h.2 i x (by simpa using hi)
      refine ⟨v, h1, h2, h3, fun j hj => ?_⟩
      rw [← h4 j hj, Nat.succ_mul]
      congr 1; omega
theorem Vs_of {M : Mem} {k : Nat} : ∀ {xs : List Dat} {b o : Nat}, (∀ (i : Nat) x, xs[i]? = some x → ∃ v, V M x v ∧ v.cells.size = k ∧ (∀ c ∈ v.cells.toList, flatV c) ∧ ∀ j, j < k → M.known b (o + i * k + j) = v.cells[j]?) → Vs M k xs b o
  | [], _, _, _ => by simp [Vs]
  | y :: xs, b, o, h => by
    simp only [Vs]
    refine ⟨by simpa using h 0 y (by simp), Vs_of fun i x hi => ?_⟩
    obtain ⟨v, h1, h2, h3, h4⟩ := h (i + 1) x (by simpa using hi)
    refine ⟨v, h1, h2, h3, fun j hj => ?_⟩
    rw [← h4 j hj, Nat.succ_mul]
    congr 1; omega
theorem Vs_drop {M : Mem} {k : Nat} {xs : List Dat} {b o : Nat} (h : Vs M k xs b o) (n m : Nat) : Vs M k ((xs.take m).drop n) b (o + n * k) := by
  refine Vs_of fun i x hi => ?_
  rw [List.getElem?_drop, List.getElem?_take] at hi
  split at hi
  case isFalse => simp at hi
  obtain ⟨v, h1, h2, h3, h4⟩ := Vs_get h (n + i) x hi
  refine ⟨v, h1, h2, h3, fun j hj => ?_⟩
  rw [← h4 j hj, Nat.add_mul]
  congr 1; omega
/-- The cells of an element are those of a piece of memory. -/
theorem Vs_elem {M : Mem} {k : Nat} {xs : List Dat} {b o : Nat} (h : Vs M k xs b o) {i : Nat} {x : Dat} (hi : xs[i]? = some x) (hc : x.cells ≠ []) : x.cells.length = k ∧ Vc M x.cells b (o + i * k) := by
  obtain ⟨v, h1, h2, _, h4⟩ := Vs_get h i x hi
  obtain ⟨h5, h6⟩ := V_cells h1 hc
  refine ⟨by omega, Vc_of fun j c hj => ?_⟩
  obtain ⟨u, hu, hf, hv⟩ := h6 j (.dat c) (by simp [hj])
  have hjl : j < x.cells.length := by
    rcases Nat.lt_or_ge j x.cells.length with h | h
    · exact h
    · rw [List.getElem?_eq_none h] at hj; simp at hj
  exact ⟨u, by rw [h4 j (by omega)]; exact hu, hf, by simpa [VD] using hv⟩

end Go.Abs

/- The abstract layer, part 7: what stays where a world turns. No conditions. -/
namespace Go.Abs
open Go.RowKit

/-- From r's side: blocks of cells keep their shape, and r's cells and objects are as they were. -/
structure Keeps (M : Mem) (r : Ref) (w w' : World) : Prop where
  cells : ∀ (b : Nat) a el, w.heap[b]? = some (.cells a el (0, 0)) → ∃ a', w'.heap[b]? = some (.cells a' el (0, 0)) ∧ a'.size = a.size ∧ ∀ j : Nat, M.owner b j = some r → a'[j]? = a[j]?
  objs : ∀ (b : Nat) o, M.owner b 0 = some r → w.heap[b]? = some o → o.isCells = false → w'.heap[b]? = some o

theorem Keeps.refl (M : Mem) (r : Ref) (w : World) : Keeps M r w w := ⟨fun b a el h => ⟨a, h, rfl, fun _ _ => rfl⟩, fun _ _ _ h _ => h⟩
theorem Keeps.alloc (M : Mem) (r : Ref) (w : World) (o : Obj) : Keeps M r w (w.alloc o) := by
  have hb : ∀ (b : Nat) x, w.heap[b]? = some x → (w.alloc o).heap[b]? = some x := by
    intro b x h
    have : b < w.heap.size := (Array.getElem?_eq_some_iff.1 h).1
    rw [Below.heap_alloc _ _ _ this]; exact h
  exact ⟨fun b a el h => ⟨a, hb _ _ h, rfl, fun _ _ => rfl⟩, fun b x _ h _ => hb _ _ h⟩

theorem RB.keep {M M' : Mem} {r : Ref} {w w' : World} (hle : M.le M') (ho : ∀ b o, M.owner b o = some r → M'.owner b o = some r) (hk : Keeps M r w w')
    (hc : ∀ l n, r = .ctr l → (∀ s i, n ≤ i → M.place (.v l s i) = none) → ∀ s i, n ≤ i → M'.place (.v l s i) = none) : ∀ x, RB M r w x → RB M' r w' x := by
  intro x h
  cases x with
  | cells cs =>
    obtain ⟨p, h1, h2, a, el, h3, h4, h5⟩ := h
    obtain ⟨a', e1, e2, e3⟩ := hk.cells _ _ _ h3
    refine ⟨p, hle.place _ _ h1, h2, a', el, e1, by omega, fun j d hj => ?_⟩
    obtain ⟨h6, v, h7, h8, h9⟩ := h5 j d hj
    exact ⟨ho _ _ h6, v, by rw [e3 j h6]; exact h7, h8, VD.mono hle _ _ h9⟩
  | arr k g cs =>
    obtain ⟨p, h1, h2, h2', a, el, h3, h4, h5, h6⟩ := h
    obtain ⟨a', e1, e2, e3⟩ := hk.cells _ _ _ h3
    refine ⟨p, hle.place _ _ h1, h2, h2', a', el, e1, by omega, fun j u v => ho _ _ (h5 j u v), fun j d hj => ?_⟩
    obtain ⟨v, h7, h8, h9⟩ := h6 j d hj
    have hj' : j < cs.length := by
      rcases Nat.lt_or_ge j cs.length with h | h
      · exact h
      · rw [List.getElem?_eq_none h] at hj; simp at hj
    exact ⟨v, by rw [e3 _ (h5 _ (by omega) (by omega))]; exact h7, h8, VD.mono hle _ _ h9⟩
  | tok k =>
    obtain ⟨p, h1, h2, h⟩ := h
    refine ⟨p, hle.place _ _ h1, h2, fun hlt => ?_⟩
    obtain ⟨a, el, h3, h4, h5⟩ := h hlt
    obtain ⟨a', e1, e2, e3⟩ := hk.cells _ _ _ h3
    exact ⟨a', el, e1, by omega, fun j u v => ho _ _ (h5 j u v)⟩
  | map es =>
    obtain ⟨p, h1, h2, en, c, h3, h4, h5, h6, h7⟩ := h
    exact ⟨p, hle.place _ _ h1, ho _ _ h2, en, c, hk.objs _ _ h2 h3 rfl, h4, fun j e k d u v => ⟨V.mono hle _ _ (h5 j e k d u v).1, VD.mono hle _ _ (h5 j e k d u v).2⟩, h6, h7⟩
  | mapl es q seen =>
    obtain ⟨p, h1, h2, en, c, h3, h4, h5, h6, h7, p', g1, g2, sn, g3, g4, g5⟩ := h
    exact ⟨p, hle.place _ _ h1, ho _ _ h2, en, c, hk.objs _ _ h2 h3 rfl, h4, fun j e k d u v => ⟨V.mono hle _ _ (h5 j e k d u v).1, VD.mono hle _ _ (h5 j e k d u v).2⟩, h6, h7,
      p', hle.place _ _ g1, ho _ _ g2, sn, hk.objs _ _ g2 g3 rfl, g4, g5⟩
  | ctr n =>
    obtain ⟨l, rfl, h⟩ := h
    exact ⟨l, rfl, hc l n rfl h⟩
  | obj o =>
    obtain ⟨b, rfl, h1, h2, h3⟩ := h
    exact ⟨b, rfl, hk.objs _ _ h3 h1 h2, h2, ho _ _ h3⟩
  | loop o tm =>
    obtain ⟨b, rfl, h1, h2, h3⟩ := h
    exact ⟨b, rfl, hk.objs _ _ h2 h1 rfl, ho _ _ h2, fun t => VD.mono hle _ _ (h3 t)⟩

/-- A new block whose cells nobody will change. -/
def Mem.know (M : Mem) (b : Nat) (a : Array Value) : Mem := { M with known := fun c o => if c = b then a[o]? else M.known c o }

theorem RS.lt {C : Ctx} {M : Mem} {g : Ref → Option Blk} {w : World} (h : RS C M g w) {b o : Nat} {v : Value} (hk : M.known b o = some v) : b < w.heap.size := by
  have := (h.known b o v hk).1
  exact World.block_lt_of_cell? _ _ this
theorem RS.know {C : Ctx} {M : Mem} {g : Ref → Option Blk} {w : World} (h : RS C M g w) (a : Array Value) (el : TypeId) :
    M.le (M.know w.heap.size a) ∧ RS C (M.know w.heap.size a) g (w.alloc (.cells a el)) := by
  have hle : M.le (M.know w.heap.size a) := by
    refine ⟨fun b o v hk => ?_, fun _ _ h => h, Nat.le_refl _, Nat.le_refl _⟩
    have := h.lt hk
    simp only [Mem.know]
    rw [if_neg (by omega)]; exact hk
  refine ⟨hle, ⟨fun b o v hk => ?_, fun b o r hr => ?_, fun r x hx => ?_, h.nf, h.plc, h.plv, fun n => ?_, h.low.alloc h.n0.1 _, ?_⟩⟩
  · simp only [Mem.know] at hk
    split at hk
    · rename_i e
      subst e
      refine ⟨by rw [World.cell?_alloc_new]; exact hk, ?_⟩
      cases e : M.owner w.heap.size o with
      | none => simpa [Mem.know] using e
      | some r => have := (h.own _ _ _ e).1; omega
    · obtain ⟨h1, h2⟩ := h.known b o v hk
      exact ⟨by rw [World.cell?_alloc_lt (a := ⟨b, o, none⟩) (h := h.lt hk)]; exact h1, h2⟩
  · obtain ⟨h1, h2⟩ := h.own b o r hr
    exact ⟨by rw [World.size_alloc]; omega, h2⟩
  · exact RB.keep hle (fun _ _ h => h) (Keeps.alloc M r w _) (fun _ _ _ h => h) x (h.blk r x hx)
  · exact V.mono hle _ _ (h.glob n)
  · have := h.n0; rw [World.size_alloc]; simp only [Mem.know]; omega

end Go.Abs

/- The abstract layer, part 8: what the code asks of types. No conditions. -/
namespace Go.Abs
open Go.RowKit

/-- The table is the program's own. -/
def CfgOk (P : Program) (c : Cfg) : Prop := ∀ t, c.ty t = tiOf P t ∨ c.ty t = default

/-- A type that is there. -/
structure Ty (P : Program) (t : TypeId) (ti : TI) (i : TypeInfo) (d : TypeDesc) : Prop where
  info : P.info? t = some i
  und : P.underlying t = some d
  kind : ti.kind = kindOf d
  size : ti.size = i.size
  bytes : ti.bytes = i.bytes
  zero : ti.zero = zeroOf i.zero
  lv : ti.lv = lvOf P t i.size

variable {P : Program} {c : Cfg}

theorem CfgOk.get (h : CfgOk P c) (t : TypeId) : c.ty t = default ∨ ∃ i d, Ty P t (c.ty t) i d := by
  rcases h t with e | e
  · rw [e]
    unfold tiOf
    cases e1 : P.info? t with
    | none => exact .inl rfl
    | some i => cases e2 : P.underlying t with
      | none => exact .inl rfl
      | some d => exact .inr ⟨i, d, ⟨e1, e2, rfl, rfl, rfl, rfl, rfl⟩⟩
  · exact .inl e
theorem default_kind : (default : TI).kind = .other := rfl
theorem default_size : (default : TI).size = 0 := rfl
theorem default_zero : (default : TI).zero = .any := rfl
theorem CfgOk.of_kind (h : CfgOk P c) {t : TypeId} (hk : (c.ty t).kind ≠ .other) : ∃ i d, Ty P t (c.ty t) i d := (h.get t).resolve_left (fun e => hk (by rw [e]; rfl))
theorem CfgOk.of_size (h : CfgOk P c) {t : TypeId} (hk : (c.ty t).size ≠ 0) : ∃ i d, Ty P t (c.ty t) i d := (h.get t).resolve_left (fun e => hk (by rw [e]; rfl))
theorem CfgOk.of_zero (h : CfgOk P c) {t : TypeId} (hk : (c.ty t).zero ≠ .any) : ∃ i d, Ty P t (c.ty t) i d := (h.get t).resolve_left (fun e => hk (by rw [e]; rfl))

theorem Ty.struct {t : TypeId} {ti : TI} {i : TypeInfo} {d : TypeDesc} (h : Ty P t ti i d) {fs : List (Nat × Nat)} (hk : ti.kind = .struct fs) : ∃ f : Array Field, d = .struct f ∧ fs = f.toList.map fun f => (f.offset, f.type) := by
  rw [h.kind] at hk
  cases d <;> simp [kindOf] at hk
  rename_i f
  exact ⟨f, rfl, hk.symm⟩
theorem Ty.slice {t : TypeId} {ti : TI} {i : TypeInfo} {d : TypeDesc} (h : Ty P t ti i d) {e : Nat} (hk : ti.kind = .slice e) : d = .slice e := by
  rw [h.kind] at hk
  cases d <;> simp [kindOf] at hk
  subst hk; rfl
theorem Ty.array {t : TypeId} {ti : TI} {i : TypeInfo} {d : TypeDesc} (h : Ty P t ti i d) {n e : Nat} (hk : ti.kind = .array n e) : d = .array n e := by
  rw [h.kind] at hk
  cases d <;> simp [kindOf] at hk
  obtain ⟨rfl, rfl⟩ := hk; rfl
theorem Ty.map {t : TypeId} {ti : TI} {i : TypeInfo} {d : TypeDesc} (h : Ty P t ti i d) {k e : Nat} (hk : ti.kind = .map k e) : d = .map k e := by
  rw [h.kind] at hk
  cases d <;> simp [kindOf] at hk
  obtain ⟨rfl, rfl⟩ := hk; rfl
theorem Ty.int {t : TypeId} {ti : TI} {i : TypeInfo} {d : TypeDesc} (h : Ty P t ti i d) {k : IntKind} (hk : ti.kind = .int k) : d = .int k := by
  rw [h.kind] at hk
  cases d <;> simp [kindOf] at hk
  subst hk; rfl
theorem Ty.string {t : TypeId} {ti : TI} {i : TypeInfo} {d : TypeDesc} (h : Ty P t ti i d) (hk : ti.kind = .string) : d = .string := by
  rw [h.kind] at hk
  cases d <;> simp [kindOf] at hk
  rfl

section runs
variable {w : World}
theorem Ty.run_underlying {t : TypeId} {ti : TI} {i : TypeInfo} {d : TypeDesc} (h : Ty P t ti i d) : (underlying t).run P w = .ok d w := by
  simp [underlying, h.und]
theorem Ty.run_typeInfo {t : TypeId} {ti : TI} {i : TypeInfo} {d : TypeDesc} (h : Ty P t ti i d) : (typeInfo t).run P w = .ok i w := by
  simp [typeInfo, h.info]
theorem Ty.run_sizeOf {t : TypeId} {ti : TI} {i : TypeInfo} {d : TypeDesc} (h : Ty P t ti i d) : (sizeOf t).run P w = .ok ti.size w := by
  simp [sizeOf, h.run_typeInfo, h.size]
theorem Ty.run_isAgg {t : TypeId} {ti : TI} {i : TypeInfo} {d : TypeDesc} (h : Ty P t ti i d) : (isAgg t).run P w = .ok ti.agg w := by
  have : ti.agg = (match d with | .struct _ | .array _ _ => true | _ => false) := by
    unfold TI.agg; rw [h.kind]; cases d <;> rfl
  rw [this]
  cases d <;> simp [isAgg, h.run_underlying]
theorem flatB_iff (v : Value) : flatB v = true ↔ flatV v := by cases v <;> simp [flatB, flatV]
theorem valCell_ok (M : Mem) (v : Value) : V M (valCell v) v := by
  unfold valCell
  split <;> simp only [V]
  exact ⟨none, 0, 0, rfl, rfl, Nat.le_refl _, fun _ => rfl, .inl rfl⟩
theorem valCells_ok (M : Mem) : ∀ l : List Value, Vl M (l.map valCell) l
  | [] => by simp [Vl]
  | v :: l => by simp only [List.map_cons, Vl]; exact ⟨valCell_ok M v, valCells_ok M l⟩
theorem valDat_ok (M : Mem) (v : Value) : V M (valDat v) v := by
  unfold valDat
  split
  · split
    · rename_i a h
      simp only [V]
      refine ⟨a, rfl, valCells_ok M _, fun x hx => ?_⟩
      rw [List.all_eq_true] at h
      exact (flatB_iff x).1 (h x hx)
    · simp only [V]
  · exact valCell_ok M v
theorem zeroOf_ok (M : Mem) {i : TypeInfo} (h : zeroOf i.zero ≠ .any) : ∃ v, i.zero = some v ∧ V M (zeroOf i.zero) v := by
  cases e : i.zero with
  | none => rw [e] at h; exact (h rfl).elim
  | some v => exact ⟨v, rfl, valDat_ok M v⟩
theorem Ty.run_zero {t : TypeId} {ti : TI} {i : TypeInfo} {d : TypeDesc} (h : Ty P t ti i d) (hz : ti.zero ≠ .any) (M : Mem) : ∃ v, (zeroValue t).run P w = .ok v w ∧ i.zero = some v ∧ V M ti.zero v := by
  rw [h.zero] at hz
  obtain ⟨v, h1, h2⟩ := zeroOf_ok M hz
  refine ⟨v, ?_, h1, by rw [h.zero]; exact h2⟩
  simp [zeroValue, h.run_typeInfo, h1]
end runs
end Go.Abs

/- The abstract layer, part 9: operations that make and change nothing of the frame's own, at the machine. No conditions. -/
namespace Go.Abs
open Go.RowKit

/-- The machine's operation answers a value that fits d. -/
def ROk (C : Ctx) (M : Mem) (g : Ref → Option Blk) (w : World) (s : Sem Next) (d : D) : Prop :=
  ∃ M' w' u, s.run C.P w = .ok (.value u) w' ∧ M.le M' ∧ RS C M' g w' ∧ VD M' d u

section
variable {C : Ctx} {c : Cfg} {M : Mem} {g : Ref → Option Blk} {w : World}
theorem ROk.now (h : RS C M g w) {s : Sem Next} {d : D} {u : Value} (hr : s.run C.P w = .ok (.value u) w) (hd : VD M d u) : ROk C M g w s d := ⟨M, w, u, hr, .refl M, h, hd⟩

theorem add_none (b o n : Nat) : (⟨b, o, none⟩ : Addr).add n = ⟨b, o + n, none⟩ := by
  unfold Addr.add; split <;> simp_all

theorem load_run (hc : CfgOk C.P c) {t : TypeId} {rd : Nat → Option Value} {b o off : Nat} (hrd : ∀ j x, rd j = some x → w.cell? ⟨b, o + j, none⟩ = some x) {cs : List D} (hcs : Cs M rd cs) {d : D}
    (hl : ld (c.ty t).agg (c.ty t).size off cs = some d) : ∃ u, (Instr.loadAt t (.pointer (some ⟨b, o + off, none⟩))).run C.P w = .ok u w ∧ VD M d u := by
  obtain ⟨h1, h2⟩ := ld_ok hcs hl
  have hty : ∃ i d, Ty C.P t (c.ty t) i d := by
    rcases hc.get t with e | e
    · rw [e] at h1 h2
      obtain ⟨h3, _⟩ := h2 rfl
      simp [default_size] at h3
    · exact e
  obtain ⟨i, td, ty⟩ := hty
  cases hagg : (c.ty t).agg with
  | true =>
    obtain ⟨vs, h3, h4, h5⟩ := h1 hagg
    refine ⟨_, ?_, h5⟩
    simp only [Instr.loadAt, Instr.sureAddr, loadVar, Sem.run_bind, Sem.run_pure, Result.andThen_ok, ty.run_isAgg, hagg, if_true, ty.run_sizeOf]
    rw [← h3, run_loadCells_list _ ⟨b, o + off, none⟩ vs]
    · rfl
    · intro j x hj
      have hjl : j < vs.length := by
        rcases Nat.lt_or_ge j vs.length with h | h
        · exact h
        · rw [List.getElem?_eq_none h] at hj; simp at hj
      rw [add_none, Nat.add_assoc]
      exact hrd _ _ (by rw [h4 j (by omega)]; exact hj)
  | false =>
    obtain ⟨h3, u, h4, h5, h6⟩ := h2 hagg
    refine ⟨u, ?_, h6⟩
    simp only [Instr.loadAt, Instr.sureAddr, loadVar, Sem.run_bind, Sem.run_pure, Result.andThen_ok, ty.run_isAgg, hagg, run_load]
    simp [hrd _ _ h4]

theorem Cs.cells {a : Array Value} {cs : List D} (h : ∀ (j : Nat) d, cs[j]? = some d → ∃ v, a[j]? = some v ∧ flatV v ∧ VD M d v) : Cs M (fun j => a[j]?) cs := h

theorem load_ok (hc : CfgOk C.P c) (hrs : RS C M g w) {get : Ref → Option Blk} (hget : ∀ r b, get r = some b → g r = some b) {t : TypeId} {x : D} {u : Value} (hx : VD M x u) {d : D}
    (hl : loadD get (c.ty t).agg (c.ty t).size x = some d) : ∃ r, (Instr.loadAt t u).run C.P w = .ok r w ∧ VD M d r := by
  unfold loadD at hl
  split at hl
  · rename_i cs off
    simp only [VD, V] at hx
    obtain ⟨b, o, rfl, hv⟩ := hx
    exact load_run hc (rd := fun j => M.known b (o + j)) (fun j x h => (hrs.known _ _ _ h).1) (Vc_cs hv) hl
  · rename_i r off
    simp only [VD] at hx
    obtain ⟨p, hp, rfl⟩ := hx
    split at hl
    · rename_i cs hg
      obtain ⟨p', hp', ho, a, el, hh, hs, hcs⟩ := hrs.blk _ _ (hget _ _ hg)
      rw [hp] at hp'; cases hp'
      refine load_run hc (rd := fun j => a[j]?) (fun j x h => ?_) (fun j d hj => (hcs j d hj).2) hl
      simp only [World.cell?, hh, ho]
      simpa using h
    · rename_i k gg cs hg
      obtain ⟨p', hp', hk, hl', a, el, hh, hs, hown, hcs⟩ := hrs.blk _ _ (hget _ _ hg)
      rw [hp] at hp'; cases hp'
      refine load_run hc (rd := fun j => a[p.off + j]?) (fun j x h => ?_) hcs hl
      simp only [World.cell?, hh]
      simpa using h
    · simp at hl
  · simp at hl

theorem elem_dec (a b : ByteArray) : (a.toList == b.toList) = decide (a = b) := by
  rw [ByteArray.toList_eq, ByteArray.toList_eq, Bool.eq_iff_iff]
  simp only [beq_iff_eq, decide_eq_true_eq]
  constructor
  · intro h
    cases a; cases b
    simp only [ByteArray.mk.injEq]
    exact Array.ext' h
  · rintro rfl; rfl

theorem bin_run {op : BinOp} {t : TypeId} {x y : Operand} {a b d : D} {u u' : Value} (ha : VD M a u) (hb : VD M b u') (hd : binD op a b = some d) :
    ∃ r, (do eqGuard op t x y u u'; binOp op t u u' : Sem Value).run C.P w = .ok r w ∧ VD M d r := by
  unfold binD at hd
  split at hd
  · rename_i k a k' b
    simp only [VD, V] at ha hb
    subst ha hb
    split at hd
    case isFalse => simp at hd
    rename_i e; subst e
    have hg : eqGuard op t x y (.int k a) (.int k b) = pure () := by cases op <;> rfl
    rw [hg]
    cases op <;> simp only [binI, Option.map_some, Option.map_none, Option.some.injEq, reduceCtorEq] at hd
    · subst hd; exact ⟨_, by simp [binOp, Op.intArith]; rfl, by simp [VD, V]⟩
    · subst hd; exact ⟨_, by simp [binOp, Op.intArith]; rfl, by simp [VD, V]⟩
    · subst hd; exact ⟨_, by simp [binOp, Op.intArith]; rfl, by simp [VD, V]⟩
    · split at hd
      · simp at hd
      · rename_i hb; simp at hd; subst hd; exact ⟨_, by simp [binOp, Op.intDiv, hb]; rfl, by simp [VD, V]⟩
    · split at hd
      · simp at hd
      · rename_i hb; simp at hd; subst hd; exact ⟨_, by simp [binOp, Op.intDiv, hb]; rfl, by simp [VD, V]⟩
    · subst hd; exact ⟨.bool (decide (a = b)), by simp [binOp, Op.intCmp]; rfl, by simp [VD, V]⟩
    · subst hd; exact ⟨.bool (!decide (a = b)), by simp [binOp, Op.intCmp]; rfl, by simp [VD, V]⟩
    · subst hd; exact ⟨_, by simp [binOp, Op.intCmp]; rfl, by simp [VD, V]⟩
    · subst hd; exact ⟨_, by simp [binOp, Op.intCmp]; rfl, by simp [VD, V]⟩
    · subst hd; exact ⟨_, by simp [binOp, Op.intCmp]; rfl, by simp [VD, V]⟩
    · subst hd; exact ⟨_, by simp [binOp, Op.intCmp]; rfl, by simp [VD, V]⟩
  · rename_i a b
    simp only [VD, V] at ha hb
    subst ha hb
    split at hd
    · simp at hd; subst hd; exact ⟨_, by simp [eqGuard, binOp_string_eql]; rfl, by simp [VD, V, elem_dec]⟩
    · simp at hd; subst hd; exact ⟨_, by simp [eqGuard, binOp_string_neq]; rfl, by simp [VD, V, elem_dec]⟩
    · simp at hd
  · simp at hd

end
end Go.Abs

/- The abstract layer, part 10: values put together. No conditions. -/
namespace Go.Abs
open Go.RowKit

/-- An array of values, cell by cell as told. -/
def ArrD (M : Mem) (a : Array Value) (cs : List D) : Prop := a.size = cs.length ∧ Cs M (fun j => a[j]?) cs

theorem setAt_length : ∀ (xs cs : List D) (o : Nat), (setAt cs o xs).length = cs.length
  | [], cs, o => by simp [setAt]
  | x :: xs, cs, o => by simp [setAt, setAt_length xs]
theorem setAt_get : ∀ (xs cs : List D) (o j : Nat), (setAt cs o xs)[j]? = if o ≤ j ∧ j < o + xs.length ∧ j < cs.length then xs[j - o]? else cs[j]?
  | [], cs, o, j => by simp [setAt]; intro h1 h2; omega
  | x :: xs, cs, o, j => by
    simp only [setAt]
    rw [setAt_get xs]
    simp only [List.length_set, List.length_cons]
    by_cases h1 : o + 1 ≤ j ∧ j < o + 1 + xs.length ∧ j < cs.length
    · rw [if_pos h1, if_pos (by omega)]
      have : j - o = (j - (o + 1)) + 1 := by omega
      rw [this, List.getElem?_cons_succ]
    · rw [if_neg h1]
      by_cases h2 : j = o
      · subst h2
        by_cases h3 : j < cs.length
        · rw [if_pos (by omega)]
          simp [List.getElem?_set_self h3]
        · rw [if_neg (by omega)]
          rw [List.getElem?_eq_none (by simp; omega), List.getElem?_eq_none (by omega)]
      · rw [if_neg (by omega), List.getElem?_set_ne (by omega)]

/-- The machine's way to lay values into cells. -/
def layV (a : Array Value) (o : Nat) (l : List Value) : Array Value := (l.zipIdx o).foldl (fun cs p => cs.setIfInBounds p.2 p.1) a
theorem layV_size : ∀ (l : List Value) (a : Array Value) (o : Nat), (layV a o l).size = a.size
  | [], a, o => rfl
  | x :: l, a, o => by
    have := layV_size l (a.setIfInBounds o x) (o + 1)
    simpa [layV, List.zipIdx_cons] using this
theorem layV_get : ∀ (l : List Value) (a : Array Value) (o j : Nat), (layV a o l)[j]? = if o ≤ j ∧ j < o + l.length ∧ j < a.size then l[j - o]? else a[j]?
  | [], a, o, j => by simp [layV]; intro h1 h2; omega
  | x :: l, a, o, j => by
    have h := layV_get l (a.setIfInBounds o x) (o + 1) j
    have e : layV a o (x :: l) = layV (a.setIfInBounds o x) (o + 1) l := by simp [layV, List.zipIdx_cons]
    rw [e, h]
    simp only [Array.size_setIfInBounds, List.length_cons]
    by_cases h1 : o + 1 ≤ j ∧ j < o + 1 + l.length ∧ j < a.size
    · rw [if_pos h1, if_pos (by omega)]
      have : j - o = (j - (o + 1)) + 1 := by omega
      rw [this, List.getElem?_cons_succ]
    · rw [if_neg h1]
      by_cases h2 : j = o
      · subst h2
        by_cases h3 : j < a.size
        · rw [if_pos (by omega)]
          simp [h3]
        · rw [if_neg (by omega)]
          rw [Array.getElem?_eq_none (by simp; omega), Array.getElem?_eq_none (by omega)]
      · rw [if_neg (by omega), Array.getElem?_setIfInBounds_ne (by omega)]
theorem foldl_layV (a : Array Value) (o : Nat) (v : Array Value) : v.zipIdx.foldl (fun cs (p : Value × Nat) => cs.setIfInBounds (o + p.2) p.1) a = layV a o v.toList := by
  have key : ∀ (l : List Value) (k : Nat) (a : Array Value), (l.zipIdx k).foldl (fun cs (p : Value × Nat) => cs.setIfInBounds (o + p.2) p.1) a = layV a (o + k) l := by
    intro l
    induction l with
    | nil => intro k a; rfl
    | cons x l ih =>
      intro k a
      simp only [List.zipIdx_cons, List.foldl_cons]
      rw [ih (k + 1)]
      simp [layV, List.zipIdx_cons, Nat.add_assoc]
  rw [← Array.foldl_toList, Array.toList_zipIdx]
  simpa using key v.toList 0 a

theorem ArrD.lay {M : Mem} {a : Array Value} {cs : List D} (h : ArrD M a cs) {x : D} {u : Value} (hx : VD M x u) {o n : Nat} (hn : x.cells.length = n) (hn0 : n ≠ 0) (ho : o + n ≤ cs.length) :
    u.cells.size = n ∧ ArrD M (layV a o u.cells.toList) (setAt cs o x.cells) := by
  obtain ⟨h1, h2⟩ := VD_cells hx (by intro e; rw [e] at hn; simp at hn; omega)
  refine ⟨by omega, by rw [layV_size, setAt_length]; exact h.1, fun j d hj => ?_⟩
  rw [setAt_get] at hj
  show ∃ x, (layV a o u.cells.toList)[j]? = some x ∧ _
  rw [layV_get]
  simp only [Array.length_toList]
  have := h.1
  by_cases h3 : o ≤ j ∧ j < o + x.cells.length ∧ j < cs.length
  · rw [if_pos h3] at hj
    rw [if_pos (by omega)]
    obtain ⟨y, e1, e2, e3⟩ := h2 _ _ hj
    exact ⟨y, by simpa using e1, e2, e3⟩
  · rw [if_neg h3] at hj
    rw [if_neg (by omega)]
    exact h.2 j d hj

theorem fill_ok {M : Mem} {place : Nat → Option (Nat × Nat)} : ∀ (ps : List (Nat × D × Value)) (qs : List (Nat × Nat × D)) (a : Array Value) (z l : List D), ArrD M a z →
    (∀ p ∈ ps, VD M p.2.1 p.2.2) → qs.length = ps.length → (∀ (j : Nat) p q, ps[j]? = some p → qs[j]? = some q → place p.1 = some (q.1, q.2.1) ∧ q.2.2 = p.2.1 ∧ q.2.1 ≠ 0) → putParts z qs = some l →
    ∃ b, Instr.fill place a (ps.map fun p => (p.1, p.2.2)) = some b ∧ ArrD M b l
  | [], [], a, z, l, h, _, _, _, hl => by simp [putParts] at hl; subst hl; exact ⟨a, rfl, h⟩
  | [], _ :: _, _, _, _, _, _, hl, _, _ => by simp at hl
  | _ :: _, [], _, _, _, _, _, hl, _, _ => by simp at hl
  | (i, x, u) :: ps, (o, n, y) :: qs, a, z, l, h, hp, hlen, hq, hl => by
    obtain ⟨h1, h2, h3⟩ : place i = some (o, n) ∧ y = x ∧ n ≠ 0 := hq 0 (i, x, u) (o, n, y) rfl rfl
    subst h2
    simp only [putParts] at hl
    split at hl
    case isFalse => simp at hl
    rename_i hc
    obtain ⟨h4, h5⟩ := h.lay (hp (i, y, u) (by simp)) (o := o) hc.1 h3 hc.2
    obtain ⟨b, h6, h7⟩ := fill_ok ps qs _ _ l h5 (fun p hp' => hp p (by simp [hp'])) (by simpa using hlen) (fun j p q e1 e2 => hq (j + 1) p q (by simpa using e1) (by simpa using e2)) hl
    refine ⟨b, ?_, h7⟩
    simp only [List.map_cons, Instr.fill, h1]
    have hs := h.1
    have h4' : u.cells.size = n := h4
    have e0 : ¬ ((decide (u.cells.size ≠ n) || decide (o + u.cells.size > a.size)) = true) := by simp; omega
    show (if (decide (u.cells.size ≠ n) || decide (o + u.cells.size > a.size)) = true then none else _) = some b
    rw [if_neg e0, foldl_layV]
    exact h6

end Go.Abs
