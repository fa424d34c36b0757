import Derived.Test.YtajlmldpbhendaaRfA
set_option maxRecDepth 100000
namespace Go.Proofs.Ytajlmldpbhendaa.Rf
/-- "saturate/saturatelaw10.CostNodes" -/
def i3 : IFun := ⟨true, 3,
  .seq (.region [⟨some 3, .box false (.t 0 true), none⟩,
        ⟨some 5, .box false (.t 2 true), none⟩,
        ⟨some 6, .mv (.c (.bool false)), none⟩] [1, 3, 5])
  (.seq (.draw [⟨some 9, .iaddrA (.t 5 false) (.c (.int .i64 0)) 2 1, none⟩,
        ⟨some 10, .load (.t 9 false) (.loc 5) 1 false false, none⟩,
        ⟨some 11, .iaddrA (.t 5 false) (.c (.int .i64 1)) 2 1, none⟩,
        ⟨some 12, .load (.t 11 false) (.loc 5) 1 false false, none⟩,
        ⟨some 7, .mv (.t 10 true), none⟩,
        ⟨some 8, .mv (.t 12 true), none⟩] [0, 1, 2, 3, 4, 5] [] [1, 3, 7, 8])
  (.seq (.draw [⟨some 13, .load (.t 3 false) (.loc 3) 32 true false, none⟩,
        ⟨some 14, .mv (.t 1 false), none⟩,
        ⟨some 15, .call (.f 15) [.t 13 true, .t 14 true] true, none⟩,
        ⟨some 16, .load (.t 3 false) (.loc 3) 32 true false, none⟩,
        ⟨some 17, .mv (.t 1 false), none⟩,
        ⟨some 18, .call (.f 16) [.t 16 true, .t 17 true] true, none⟩,
        ⟨some 19, .bin .eql (.t 15 false) (.t 18 false), none⟩,
        ⟨some 20, .mv (.t 19 true), none⟩,
        ⟨some 21, .mv (.t 7 false), (some (20, true))⟩,
        ⟨some 22, .mv (.t 8 false), (some (20, true))⟩,
        ⟨some 23, .call (.f 17) [.t 21 true, .t 22 true] true, (some (20, true))⟩,
        ⟨some 24, .mv (.t 7 false), (some (20, true))⟩,
        ⟨some 25, .mv (.t 8 false), (some (20, true))⟩,
        ⟨some 26, .call (.f 18) [.t 24 true, .t 25 true] true, (some (20, true))⟩,
        ⟨some 27, .bin .eql (.t 23 false) (.t 26 false), (some (20, true))⟩,
        ⟨some 28, .pick (.t 20 false) (.t 27 false) (.c (.bool false)), none⟩,
        ⟨some 29, .mv (.t 28 true), none⟩,
        ⟨some 30, .call (.f 19) [] true, (some (29, true))⟩,
        ⟨some 31, .mv (.t 1 true), (some (29, true))⟩,
        ⟨some 32, .call (.f 15) [.t 30 true, .t 31 true] true, (some (29, true))⟩,
        ⟨some 33, .bin .eql (.t 32 false) (.c (.int .i64 1)), (some (29, true))⟩,
        ⟨some 34, .pick (.t 29 false) (.t 33 false) (.c (.bool false)), none⟩,
        ⟨some 35, .mv (.t 34 true), none⟩,
        ⟨some 36, .call (.f 20) [] true, (some (35, true))⟩,
        ⟨some 37, .pick (.t 35 false) (.t 36 false) (.c (.bool false)), none⟩,
        ⟨some 6, .mv (.t 37 true), none⟩] [0, 1, 2, 3, 4, 5, 6, 7, 8, 9, 10, 11, 12, 13, 14, 15, 16, 17, 18, 19, 20, 21, 22, 23, 24, 25] [5, 13, 19, 23] [6])
  (.ret))),
  [.tmp 6]⟩

/-- "saturate/saturatelaw10.CostTrees" -/
def i4 : IFun := ⟨true, 2,
  .seq (.region [⟨some 2, .box false (.t 0 true), none⟩,
        ⟨some 3, .box false (.t 1 true), none⟩,
        ⟨some 4, .mv (.c (.bool false)), none⟩] [2, 3])
  (.seq (.seq (.region [⟨some 5, .load (.t 3 false) (.loc 3) 5 true false, none⟩,
          ⟨some 6, .call (.f 21) [.t 5 true, .c (.int .i64 60)] false, none⟩,
          ⟨some 7, .un .not (.t 6 false), none⟩] [2, 3, 7])
    (.cond (.t 7 false)
      (.seq (.region [⟨some 8, .call (.f 20) [] false, none⟩,
              ⟨some 4, .mv (.t 8 true), none⟩] [4])
        (.ret))
      (.skip)))
  (.seq (.draw [⟨some 9, .load (.t 2 false) (.loc 2) 32 true false, none⟩,
        ⟨some 10, .load (.t 3 false) (.loc 3) 5 true false, none⟩,
        ⟨some 11, .call (.f 22) [.t 9 true, .t 10 true] true, none⟩,
        ⟨some 12, .load (.t 2 false) (.loc 2) 32 true false, none⟩,
        ⟨some 13, .load (.t 3 false) (.loc 3) 5 true false, none⟩,
        ⟨some 14, .call (.f 23) [.t 12 true, .t 13 true] true, none⟩,
        ⟨some 15, .bin .eql (.t 11 false) (.t 14 false), none⟩,
        ⟨some 16, .mv (.t 15 true), none⟩,
        ⟨some 17, .call (.f 20) [] true, (some (16, true))⟩,
        ⟨some 18, .pick (.t 16 false) (.t 17 false) (.c (.bool false)), none⟩,
        ⟨some 4, .mv (.t 18 true), none⟩] [0, 1, 2, 3, 4, 5, 6, 7, 8, 9, 10] [5, 8] [4])
  (.ret))),
  [.tmp 4]⟩

/-- "saturate/saturatelaw10.CostDags" -/
def i5 : IFun := ⟨true, 2,
  .seq (.region [⟨some 2, .box false (.t 0 true), none⟩,
        ⟨some 3, .box false (.t 1 true), none⟩,
        ⟨some 4, .mv (.c (.bool false)), none⟩] [2, 3])
  (.seq (.draw [⟨some 8, .iaddrA (.t 3 false) (.c (.int .i64 0)) 3 5, none⟩,
        ⟨some 9, .load (.t 8 false) (.loc 3) 5 true false, none⟩,
        ⟨some 10, .iaddrA (.t 3 false) (.c (.int .i64 1)) 3 5, none⟩,
        ⟨some 11, .load (.t 10 false) (.loc 3) 5 true false, none⟩,
        ⟨some 12, .iaddrA (.t 3 false) (.c (.int .i64 2)) 3 5, none⟩,
        ⟨some 13, .load (.t 12 false) (.loc 3) 5 true false, none⟩,
        ⟨some 5, .alloc false [.int .i64 0, .int .i64 0, .int .u64 0, .str [], .list [] .nil], none⟩,
        ⟨some 6, .alloc false [.int .i64 0, .int .i64 0, .int .u64 0, .str [], .list [] .nil], none⟩,
        ⟨some 7, .alloc false [.int .i64 0, .int .i64 0, .int .u64 0, .str [], .list [] .nil], none⟩,
        ⟨none, .store (.t 5 false) (.loc 5) (.t 9 true) 5, none⟩,
        ⟨none, .store (.t 6 false) (.loc 6) (.t 11 true) 5, none⟩,
        ⟨none, .store (.t 7 false) (.loc 7) (.t 13 true) 5, none⟩] [0, 1, 2, 3, 4, 5, 6, 7, 8, 9, 10, 11] [] [2, 5, 6, 7])
  (.seq (.seq (.region [⟨some 14, .load (.t 5 false) (.loc 5) 5 true false, none⟩,
          ⟨some 15, .call (.f 21) [.t 14 true, .c (.int .i64 40)] false, none⟩,
          ⟨some 16, .un .not (.t 15 false), none⟩,
          ⟨some 17, .mv (.t 16 true), none⟩,
          ⟨some 18, .load (.t 6 false) (.loc 6) 5 true false, (some (17, false))⟩,
          ⟨some 19, .call (.f 21) [.t 18 true, .c (.int .i64 40)] false, (some (17, false))⟩,
          ⟨some 20, .un .not (.t 19 false), (some (17, false))⟩,
          ⟨some 21, .pick (.t 17 false) (.c (.bool true)) (.t 20 false), none⟩,
          ⟨some 22, .mv (.t 21 true), none⟩,
          ⟨some 23, .load (.t 7 false) (.loc 7) 5 true false, (some (22, false))⟩,
          ⟨some 24, .call (.f 21) [.t 23 true, .c (.int .i64 40)] false, (some (22, false))⟩,
          ⟨some 25, .un .not (.t 24 false), (some (22, false))⟩,
          ⟨some 26, .pick (.t 22 false) (.c (.bool true)) (.t 25 false), none⟩] [2, 5, 6, 7, 26])
    (.cond (.t 26 false)
      (.seq (.region [⟨some 27, .call (.f 20) [] false, none⟩,
              ⟨some 4, .mv (.t 27 true), none⟩] [4])
        (.ret))
      (.skip)))
  (.seq (.draw [⟨some 28, .load (.t 2 false) (.loc 2) 32 true false, none⟩,
        ⟨some 29, .call (.f 24) [.t 28 true, .c (.list [] .nil)] true, none⟩,
        ⟨some 30, .bin .eql (.t 29 false) (.c (.int .i64 0)), none⟩,
        ⟨some 31, .mv (.t 30 true), none⟩,
        ⟨some 32, .load (.t 2 false) (.loc 2) 32 true false, (some (31, true))⟩,
        ⟨some 33, .load (.t 5 false) (.loc 5) 5 true false, (some (31, true))⟩,
        ⟨some 34, .bslice (.agg [.int .i64 0, .int .i64 0, .int .u64 0, .str [], .list [] .nil]) 1 [(0, .t 33 true)], (some (31, true))⟩,
        ⟨some 35, .call (.f 24) [.t 32 true, .t 34 true] true, (some (31, true))⟩,
        ⟨some 36, .load (.t 2 false) (.loc 2) 32 true false, (some (31, true))⟩,
        ⟨some 37, .load (.t 5 false) (.loc 5) 5 true false, (some (31, true))⟩,
        ⟨some 38, .bslice (.agg [.int .i64 0, .int .i64 0, .int .u64 0, .str [], .list [] .nil]) 1 [(0, .t 37 true)], (some (31, true))⟩,
        ⟨some 39, .call (.f 25) [.t 36 true, .t 38 true] true, (some (31, true))⟩,
        ⟨some 40, .bin .eql (.t 35 false) (.t 39 false), (some (31, true))⟩,
        ⟨some 41, .pick (.t 31 false) (.t 40 false) (.c (.bool false)), none⟩,
        ⟨some 42, .mv (.t 41 true), none⟩,
        ⟨some 43, .load (.t 2 false) (.loc 2) 32 true false, (some (42, true))⟩,
        ⟨some 44, .load (.t 5 false) (.loc 5) 5 true false, (some (42, true))⟩,
        ⟨some 45, .load (.t 6 false) (.loc 6) 5 true false, (some (42, true))⟩,
        ⟨some 46, .load (.t 7 false) (.loc 7) 5 true false, (some (42, true))⟩,
        ⟨some 47, .bslice (.agg [.int .i64 0, .int .i64 0, .int .u64 0, .str [], .list [] .nil]) 3 [(0, .t 44 true), (1, .t 45 true), (2, .t 46 true)], (some (42, true))⟩,
        ⟨some 48, .call (.f 24) [.t 43 true, .t 47 true] true, (some (42, true))⟩,
        ⟨some 49, .load (.t 2 false) (.loc 2) 32 true false, (some (42, true))⟩,
        ⟨some 50, .load (.t 5 false) (.loc 5) 5 true false, (some (42, true))⟩,
        ⟨some 51, .load (.t 6 false) (.loc 6) 5 true false, (some (42, true))⟩,
        ⟨some 52, .load (.t 7 false) (.loc 7) 5 true false, (some (42, true))⟩,
        ⟨some 53, .bslice (.agg [.int .i64 0, .int .i64 0, .int .u64 0, .str [], .list [] .nil]) 3 [(0, .t 50 true), (1, .t 51 true), (2, .t 52 true)], (some (42, true))⟩,
        ⟨some 54, .call (.f 25) [.t 49 true, .t 53 true] true, (some (42, true))⟩,
        ⟨some 55, .bin .eql (.t 48 false) (.t 54 false), (some (42, true))⟩,
        ⟨some 56, .pick (.t 42 false) (.t 55 false) (.c (.bool false)), none⟩,
        ⟨some 57, .mv (.t 56 true), none⟩,
        ⟨some 58, .call (.f 20) [] true, (some (57, true))⟩,
        ⟨some 59, .pick (.t 57 false) (.t 58 false) (.c (.bool false)), none⟩,
        ⟨some 4, .mv (.t 59 true), none⟩] [0, 1, 2, 3, 4, 5, 6, 7, 8, 9, 10, 11, 12, 13, 14, 15, 16, 17, 18, 19, 20, 21, 22, 23, 24, 25, 26, 27, 28, 29, 30, 31, 32] [1, 11, 26, 30] [4])
  (.ret)))),
  [.tmp 4]⟩

/-- "saturate/saturatelaw10.CostShared" -/
def i6 : IFun := ⟨true, 2,
  .seq (.region [⟨some 2, .box false (.t 0 true), none⟩,
        ⟨some 3, .box false (.t 1 true), none⟩,
        ⟨some 4, .mv (.c (.bool false)), none⟩] [2, 3])
  (.seq (.seq (.region [⟨some 8, .load (.t 3 false) (.loc 3) 5 true false, none⟩,
          ⟨some 9, .call (.f 21) [.t 8 true, .c (.int .i64 60)] false, none⟩,
          ⟨some 10, .un .not (.t 9 false), none⟩] [2, 3, 10])
    (.cond (.t 10 false)
      (.seq (.region [⟨some 11, .call (.f 20) [] false, none⟩,
              ⟨some 4, .mv (.t 11 true), none⟩] [4])
        (.ret))
      (.skip)))
  (.seq (.draw [⟨some 12, .load (.t 2 false) (.loc 2) 32 true false, none⟩,
        ⟨some 13, .load (.t 3 false) (.loc 3) 5 true false, none⟩,
        ⟨some 14, .bslice (.agg [.int .i64 0, .int .i64 0, .int .u64 0, .str [], .list [] .nil]) 1 [(0, .t 13 true)], none⟩,
        ⟨some 15, .call (.f 24) [.t 12 true, .t 14 true] true, none⟩,
        ⟨some 16, .load (.t 2 false) (.loc 2) 32 true false, none⟩,
        ⟨some 17, .load (.t 3 false) (.loc 3) 5 true false, none⟩,
        ⟨some 18, .call (.f 22) [.t 16 true, .t 17 true] true, none⟩,
        ⟨some 5, .mv (.t 15 true), none⟩,
        ⟨some 6, .mv (.t 18 true), none⟩] [0, 1, 2, 3, 4, 5, 6, 7, 8] [6] [3, 5, 6])
  (.seq (.draw [⟨some 19, .load (.t 3 false) (.loc 3) 5 true false, none⟩,
        ⟨some 20, .call (.f 26) [.c (.list [] .nil), .t 19 true] true, none⟩,
        ⟨some 21, .len (.t 20 false) .list, none⟩,
        ⟨some 22, .load (.t 3 false) (.loc 3) 5 true false, none⟩,
        ⟨some 23, .call (.f 27) [.t 22 true] true, none⟩,
        ⟨some 24, .bin .eql (.t 21 false) (.t 23 false), none⟩,
        ⟨some 7, .mv (.t 24 true), none⟩] [0, 1, 2, 3, 4, 5, 6] [4] [5, 6, 7])
  (.seq (.region [⟨some 25, .mv (.t 5 false), none⟩,
        ⟨some 26, .bin .geq (.t 25 false) (.c (.int .i64 1)), none⟩,
        ⟨some 27, .mv (.t 26 true), none⟩,
        ⟨some 28, .mv (.t 5 false), (some (27, true))⟩,
        ⟨some 29, .mv (.t 6 false), (some (27, true))⟩,
        ⟨some 30, .bin .leq (.t 28 false) (.t 29 false), (some (27, true))⟩,
        ⟨some 31, .pick (.t 27 false) (.t 30 false) (.c (.bool false)), none⟩,
        ⟨some 32, .mv (.t 31 true), none⟩,
        ⟨some 33, .mv (.t 5 true), (some (32, true))⟩,
        ⟨some 34, .mv (.t 6 true), (some (32, true))⟩,
        ⟨some 35, .bin .eql (.t 33 false) (.t 34 false), (some (32, true))⟩,
        ⟨some 36, .mv (.t 7 true), (some (32, true))⟩,
        ⟨some 37, .eq false .bool (.t 35 false) (.t 36 false), (some (32, true))⟩,
        ⟨some 38, .pick (.t 32 false) (.t 37 false) (.c (.bool false)), none⟩,
        ⟨some 39, .mv (.t 38 true), none⟩,
        ⟨some 40, .call (.f 20) [] false, (some (39, true))⟩,
        ⟨some 41, .pick (.t 39 false) (.t 40 false) (.c (.bool false)), none⟩,
        ⟨some 4, .mv (.t 41 true), none⟩] [4])
  (.ret))))),
  [.tmp 4]⟩

/-- "saturate/saturatelaw10.CostOrder" -/
def i7 : IFun := ⟨true, 3,
  .seq (.region [⟨some 3, .box false (.t 0 true), none⟩,
        ⟨some 4, .box false (.t 1 true), none⟩,
        ⟨some 5, .box false (.t 2 true), none⟩,
        ⟨some 6, .mv (.c (.bool false)), none⟩] [3, 4, 5])
  (.seq (.seq (.region [⟨some 8, .load (.t 4 false) (.loc 4) 5 true false, none⟩,
          ⟨some 9, .call (.f 21) [.t 8 true, .c (.int .i64 40)] false, none⟩,
          ⟨some 10, .un .not (.t 9 false), none⟩,
          ⟨some 11, .mv (.t 10 true), none⟩,
          ⟨some 12, .load (.t 5 false) (.loc 5) 5 true false, (some (11, false))⟩,
          ⟨some 13, .call (.f 21) [.t 12 true, .c (.int .i64 40)] false, (some (11, false))⟩,
          ⟨some 14, .un .not (.t 13 false), (some (11, false))⟩,
          ⟨some 15, .pick (.t 11 false) (.c (.bool true)) (.t 14 false), none⟩] [3, 4, 5, 15])
    (.cond (.t 15 false)
      (.seq (.region [⟨some 16, .call (.f 20) [] false, none⟩,
              ⟨some 6, .mv (.t 16 true), none⟩] [6])
        (.ret))
      (.skip)))
  (.seq (.region [⟨some 17, .load (.t 3 false) (.loc 3) 32 true false, none⟩,
        ⟨some 18, .load (.t 4 false) (.loc 4) 5 true false, none⟩,
        ⟨some 19, .load (.t 5 false) (.loc 5) 5 true false, none⟩,
        ⟨some 20, .bslice (.agg [.int .i64 0, .int .i64 0, .int .u64 0, .str [], .list [] .nil]) 2 [(0, .t 18 true), (1, .t 19 true)], none⟩,
        ⟨some 21, .call (.f 24) [.t 17 true, .t 20 true] false, none⟩,
        ⟨some 7, .mv (.t 21 true), none⟩] [3, 4, 5, 7])
  (.seq (.draw [⟨some 22, .load (.t 3 false) (.loc 3) 32 true false, none⟩,
        ⟨some 23, .load (.t 5 false) (.loc 5) 5 true false, none⟩,
        ⟨some 24, .load (.t 4 false) (.loc 4) 5 true false, none⟩,
        ⟨some 25, .bslice (.agg [.int .i64 0, .int .i64 0, .int .u64 0, .str [], .list [] .nil]) 2 [(0, .t 23 true), (1, .t 24 true)], none⟩,
        ⟨some 26, .call (.f 24) [.t 22 true, .t 25 true] true, none⟩,
        ⟨some 27, .mv (.t 7 false), none⟩,
        ⟨some 28, .bin .eql (.t 26 false) (.t 27 false), none⟩,
        ⟨some 29, .mv (.t 28 true), none⟩,
        ⟨some 30, .load (.t 3 false) (.loc 3) 32 true false, (some (29, true))⟩,
        ⟨some 31, .load (.t 4 false) (.loc 4) 5 true false, (some (29, true))⟩,
        ⟨some 32, .load (.t 5 false) (.loc 5) 5 true false, (some (29, true))⟩,
        ⟨some 33, .load (.t 4 false) (.loc 4) 5 true false, (some (29, true))⟩,
        ⟨some 34, .bslice (.agg [.int .i64 0, .int .i64 0, .int .u64 0, .str [], .list [] .nil]) 3 [(0, .t 31 true), (1, .t 32 true), (2, .t 33 true)], (some (29, true))⟩,
        ⟨some 35, .call (.f 24) [.t 30 true, .t 34 true] true, (some (29, true))⟩,
        ⟨some 36, .mv (.t 7 false), (some (29, true))⟩,
        ⟨some 37, .bin .eql (.t 35 false) (.t 36 false), (some (29, true))⟩,
        ⟨some 38, .pick (.t 29 false) (.t 37 false) (.c (.bool false)), none⟩,
        ⟨some 39, .mv (.t 38 true), none⟩,
        ⟨some 40, .load (.t 3 false) (.loc 3) 32 true false, (some (39, true))⟩,
        ⟨some 41, .load (.t 4 false) (.loc 4) 5 true false, (some (39, true))⟩,
        ⟨some 42, .bslice (.agg [.int .i64 0, .int .i64 0, .int .u64 0, .str [], .list [] .nil]) 1 [(0, .t 41 true)], (some (39, true))⟩,
        ⟨some 43, .call (.f 24) [.t 40 true, .t 42 true] true, (some (39, true))⟩,
        ⟨some 44, .mv (.t 7 false), (some (39, true))⟩,
        ⟨some 45, .bin .leq (.t 43 false) (.t 44 false), (some (39, true))⟩,
        ⟨some 46, .pick (.t 39 false) (.t 45 false) (.c (.bool false)), none⟩,
        ⟨some 47, .mv (.t 46 true), none⟩,
        ⟨some 48, .mv (.t 7 true), (some (47, true))⟩,
        ⟨some 49, .load (.t 3 false) (.loc 3) 32 true false, (some (47, true))⟩,
        ⟨some 50, .load (.t 4 false) (.loc 4) 5 true false, (some (47, true))⟩,
        ⟨some 51, .bslice (.agg [.int .i64 0, .int .i64 0, .int .u64 0, .str [], .list [] .nil]) 1 [(0, .t 50 true)], (some (47, true))⟩,
        ⟨some 52, .call (.f 24) [.t 49 true, .t 51 true] true, (some (47, true))⟩,
        ⟨some 53, .load (.t 3 false) (.loc 3) 32 true false, (some (47, true))⟩,
        ⟨some 54, .load (.t 5 false) (.loc 5) 5 true false, (some (47, true))⟩,
        ⟨some 55, .bslice (.agg [.int .i64 0, .int .i64 0, .int .u64 0, .str [], .list [] .nil]) 1 [(0, .t 54 true)], (some (47, true))⟩,
        ⟨some 56, .call (.f 24) [.t 53 true, .t 55 true] true, (some (47, true))⟩,
        ⟨some 57, .call (.f 17) [.t 52 true, .t 56 true] true, (some (47, true))⟩,
        ⟨some 58, .bin .leq (.t 48 false) (.t 57 false), (some (47, true))⟩,
        ⟨some 59, .pick (.t 47 false) (.t 58 false) (.c (.bool false)), none⟩,
        ⟨some 60, .mv (.t 59 true), none⟩,
        ⟨some 61, .call (.f 20) [] true, (some (60, true))⟩,
        ⟨some 62, .pick (.t 60 false) (.t 61 false) (.c (.bool false)), none⟩,
        ⟨some 6, .mv (.t 62 true), none⟩] [0, 1, 2, 3, 4, 5, 6, 7, 8, 9, 10, 11, 12, 13, 14, 15, 16, 17, 18, 19, 20, 21, 22, 23, 24, 25, 26, 27, 28, 29, 30, 31, 32, 33, 34, 35, 36, 37, 38, 39, 40, 41] [34, 35, 39] [6])
  (.ret)))),
  [.tmp 6]⟩

/-- "saturate/saturatelaw10.CostGrows" -/
def i8 : IFun := ⟨true, 2,
  .seq (.region [⟨some 2, .box false (.t 0 true), none⟩,
        ⟨some 3, .box false (.t 1 true), none⟩,
        ⟨some 4, .mv (.c (.bool false)), none⟩] [2, 3])
  (.seq (.seq (.region [⟨some 8, .load (.t 3 false) (.loc 3) 5 true false, none⟩,
          ⟨some 9, .call (.f 21) [.t 8 true, .c (.int .i64 60)] false, none⟩,
          ⟨some 10, .un .not (.t 9 false), none⟩] [2, 3, 10])
    (.cond (.t 10 false)
      (.seq (.region [⟨some 11, .call (.f 20) [] false, none⟩,
              ⟨some 4, .mv (.t 11 true), none⟩] [4])
        (.ret))
      (.skip)))
  (.seq (.region [⟨some 12, .load (.t 2 false) (.loc 2) 32 true false, none⟩,
        ⟨some 13, .faddr (.t 3 false) 0, none⟩,
        ⟨some 14, .load (.t 13 false) (.loc 3) 1 false false, none⟩,
        ⟨some 15, .call (.f 15) [.t 12 true, .t 14 true] false, none⟩,
        ⟨some 5, .mv (.t 15 true), none⟩] [2, 3, 5])
  (.seq (.seq (.region [⟨some 16, .faddr (.t 3 false) 4, none⟩,
          ⟨some 17, .load (.t 16 false) (.loc 3) 1 false false, none⟩,
          ⟨some 18, .len (.t 17 false) .list, none⟩,
          ⟨some 19, .mv (.c (.int .i64 0)), none⟩] [2, 3, 5, 18, 19])
    (.block 0
      (.loop
        (.seq (.region [⟨some 20, .bin .lss (.t 19 false) (.t 18 false), none⟩] [2, 3, 5, 18, 19, 20])
        (.seq (.cond (.t 20 false)
            (.skip)
            (.exit 0))
        (.seq (.block 1
            (.seq (.region [⟨some 21, .mv (.t 19 false), none⟩,
                  ⟨some 6, .mv (.t 21 true), none⟩] [2, 3, 5, 6, 18, 19])
            (.seq (.draw [⟨some 22, .load (.t 2 false) (.loc 2) 32 true false, none⟩,
                  ⟨some 23, .faddr (.t 3 false) 4, none⟩,
                  ⟨some 24, .load (.t 23 false) (.loc 3) 1 false false, none⟩,
                  ⟨some 25, .mv (.t 6 false), none⟩,
                  ⟨some 26, .iaddrL (.t 24 false) (.t 25 false) 5, none⟩,
                  ⟨some 27, .load (.t 26 false) .elem 5 true false, none⟩,
                  ⟨some 28, .call (.f 22) [.t 22 true, .t 27 true] true, none⟩,
                  ⟨some 7, .mv (.t 28 true), none⟩] [0, 1, 2, 3, 4, 5, 6, 7] [6] [2, 3, 5, 6, 7, 18, 19])
            (.seq (.region [⟨some 29, .mv (.t 5 true), none⟩,
                  ⟨some 30, .mv (.t 7 false), none⟩,
                  ⟨some 31, .call (.f 17) [.t 29 true, .t 30 true] false, none⟩,
                  ⟨some 5, .mv (.t 31 true), none⟩] [2, 3, 5, 6, 7, 18, 19])
            (.seq (.draw [⟨some 32, .mv (.t 7 true), none⟩,
                  ⟨some 33, .load (.t 2 false) (.loc 2) 32 true false, none⟩,
                  ⟨some 34, .load (.t 3 false) (.loc 3) 5 true false, none⟩,
                  ⟨some 35, .call (.f 22) [.t 33 true, .t 34 true] true, none⟩,
                  ⟨some 36, .bin .geq (.t 32 false) (.t 35 false), none⟩,
                  ⟨some 37, .mv (.t 36 true), none⟩,
                  ⟨some 38, .load (.t 2 false) (.loc 2) 32 true false, (some (37, false))⟩,
                  ⟨some 39, .faddr (.t 3 false) 4, (some (37, false))⟩,
                  ⟨some 40, .load (.t 39 false) (.loc 3) 1 false false, (some (37, false))⟩,
                  ⟨some 41, .mv (.t 6 true), (some (37, false))⟩,
                  ⟨some 42, .iaddrL (.t 40 false) (.t 41 false) 5, (some (37, false))⟩,
                  ⟨some 43, .load (.t 42 false) .elem 5 true false, (some (37, false))⟩,
                  ⟨some 44, .bslice (.agg [.int .i64 0, .int .i64 0, .int .u64 0, .str [], .list [] .nil]) 1 [(0, .t 43 true)], (some (37, false))⟩,
                  ⟨some 45, .call (.f 24) [.t 38 true, .t 44 true] true, (some (37, false))⟩,
                  ⟨some 46, .load (.t 2 false) (.loc 2) 32 true false, (some (37, false))⟩,
                  ⟨some 47, .load (.t 3 false) (.loc 3) 5 true false, (some (37, false))⟩,
                  ⟨some 48, .bslice (.agg [.int .i64 0, .int .i64 0, .int .u64 0, .str [], .list [] .nil]) 1 [(0, .t 47 true)], (some (37, false))⟩,
                  ⟨some 49, .call (.f 24) [.t 46 true, .t 48 true] true, (some (37, false))⟩,
                  ⟨some 50, .bin .geq (.t 45 false) (.t 49 false), (some (37, false))⟩,
                  ⟨some 51, .pick (.t 37 false) (.c (.bool true)) (.t 50 false), none⟩] [0, 1, 2, 3, 4, 5, 6, 7, 8, 9, 10, 11, 12, 13, 14, 15, 16, 17, 18, 19] [3, 17] [2, 3, 5, 18, 19, 51])
            (.cond (.t 51 false)
              (.seq (.region [⟨some 4, .mv (.c (.bool false)), none⟩] [4])
                (.ret))
              (.skip)))))))
        (.region [⟨some 52, .bin .add (.t 19 false) (.c (.int .i64 1)), none⟩,
            ⟨some 19, .mv (.t 52 true), none⟩] [2, 3, 5, 18, 19])))))))
  (.seq (.region [⟨some 53, .mv (.t 5 true), none⟩,
        ⟨some 54, .load (.t 2 false) (.loc 2) 32 true false, none⟩,
        ⟨some 55, .load (.t 3 false) (.loc 3) 5 true false, none⟩,
        ⟨some 56, .call (.f 22) [.t 54 true, .t 55 true] false, none⟩,
        ⟨some 57, .bin .eql (.t 53 false) (.t 56 false), none⟩,
        ⟨some 58, .mv (.t 57 true), none⟩,
        ⟨some 59, .call (.f 20) [] false, (some (58, true))⟩,
        ⟨some 60, .pick (.t 58 false) (.t 59 false) (.c (.bool false)), none⟩,
        ⟨some 4, .mv (.t 60 true), none⟩] [4])
  (.ret))))),
  [.tmp 4]⟩

/-- "saturate/cost.Node" -/
def i15 : IFun := ⟨true, 2,
  .seq (.region [⟨some 2, .box false (.t 0 true), none⟩,
        ⟨some 4, .mv (.c (.int .i64 0)), none⟩] [1, 2])
  (.seq (.seq (.region [⟨some 5, .mv (.t 1 false), none⟩,
          ⟨some 6, .bin .lss (.t 5 false) (.c (.int .i64 1)), none⟩,
          ⟨some 7, .mv (.t 6 true), none⟩,
          ⟨some 8, .mv (.t 1 false), (some (7, false))⟩,
          ⟨some 9, .bin .gtr (.t 8 false) (.c (.int .i64 26)), (some (7, false))⟩,
          ⟨some 10, .pick (.t 7 false) (.c (.bool true)) (.t 9 false), none⟩] [1, 2, 10])
    (.cond (.t 10 false)
      (.seq (.region [⟨some 4, .mv (.c (.int .i64 1)), none⟩] [4])
        (.ret))
      (.skip)))
  (.seq (.region [⟨some 11, .mv (.t 1 true), none⟩,
        ⟨some 12, .iaddrA (.t 2 false) (.t 11 false) 32 1, none⟩,
        ⟨some 13, .load (.t 12 false) (.loc 2) 1 false false, none⟩,
        ⟨some 14, .max (.t 13 false) (.c (.int .i64 1)), none⟩,
        ⟨some 15, .min (.t 14 false) (.c (.int .i64 1048576)), none⟩,
        ⟨some 4, .mv (.t 15 true), none⟩] [4])
  (.ret))),
  [.tmp 4]⟩

/-- "saturate/saturateref10.Node" -/
def i16 : IFun := ⟨true, 2,
  .seq (.region [⟨some 2, .box false (.t 0 true), none⟩,
        ⟨some 4, .mv (.c (.int .i64 0)), none⟩] [1, 2])
  (.seq (.seq (.region [⟨some 5, .mv (.t 1 false), none⟩,
          ⟨some 6, .bin .lss (.t 5 false) (.c (.int .i64 1)), none⟩,
          ⟨some 7, .mv (.t 6 true), none⟩,
          ⟨some 8, .mv (.t 1 false), (some (7, false))⟩,
          ⟨some 9, .bin .gtr (.t 8 false) (.c (.int .i64 26)), (some (7, false))⟩,
          ⟨some 10, .pick (.t 7 false) (.c (.bool true)) (.t 9 false), none⟩] [1, 2, 10])
    (.cond (.t 10 false)
      (.seq (.region [⟨some 4, .mv (.c (.int .i64 1)), none⟩] [4])
        (.ret))
      (.skip)))
  (.seq (.region [⟨some 11, .mv (.t 1 true), none⟩,
        ⟨some 12, .iaddrA (.t 2 false) (.t 11 false) 32 1, none⟩,
        ⟨some 13, .load (.t 12 false) (.loc 2) 1 false false, none⟩,
        ⟨some 14, .max (.t 13 false) (.c (.int .i64 1)), none⟩,
        ⟨some 15, .min (.t 14 false) (.c (.int .i64 1048576)), none⟩,
        ⟨some 4, .mv (.t 15 true), none⟩] [4])
  (.ret))),
  [.tmp 4]⟩

/-- "saturate/cost.Add" -/
def i17 : IFun := ⟨true, 2,
  .seq (.region [⟨some 4, .mv (.c (.int .i64 0)), none⟩] [0, 1])
  (.seq (.region [⟨some 7, .mv (.t 0 true), none⟩,
        ⟨some 8, .call (.f 44) [.t 7 true] false, none⟩,
        ⟨some 9, .mv (.t 1 true), none⟩,
        ⟨some 10, .call (.f 44) [.t 9 true] false, none⟩,
        ⟨some 5, .mv (.t 8 true), none⟩,
        ⟨some 6, .mv (.t 10 true), none⟩] [5, 6])
  (.seq (.seq (.region [⟨some 11, .mv (.t 5 false), none⟩,
          ⟨some 12, .mv (.t 6 false), none⟩,
          ⟨some 13, .bin .sub (.c (.int .i64 4611686018427387904)) (.t 12 false), none⟩,
          ⟨some 14, .bin .gtr (.t 11 false) (.t 13 false), none⟩] [5, 6, 14])
    (.cond (.t 14 false)
      (.seq (.region [⟨some 4, .mv (.c (.int .i64 4611686018427387904)), none⟩] [4])
        (.ret))
      (.skip)))
  (.seq (.region [⟨some 15, .mv (.t 5 true), none⟩,
        ⟨some 16, .mv (.t 6 true), none⟩,
        ⟨some 17, .bin .add (.t 15 false) (.t 16 false), none⟩,
        ⟨some 4, .mv (.t 17 true), none⟩] [4])
  (.ret)))),
  [.tmp 4]⟩

/-- "saturate/saturateref10.Add" -/
def i18 : IFun := ⟨true, 2,
  .seq (.region [⟨some 4, .mv (.c (.int .i64 0)), none⟩] [0, 1])
  (.seq (.region [⟨some 5, .mv (.t 0 true), none⟩,
        ⟨some 6, .max (.t 5 false) (.c (.int .i64 0)), none⟩,
        ⟨some 7, .min (.t 6 false) (.c (.int .i64 4611686018427387904)), none⟩,
        ⟨some 8, .mv (.t 1 true), none⟩,
        ⟨some 9, .max (.t 8 false) (.c (.int .i64 0)), none⟩,
        ⟨some 10, .min (.t 9 false) (.c (.int .i64 4611686018427387904)), none⟩,
        ⟨some 0, .mv (.t 7 true), none⟩,
        ⟨some 1, .mv (.t 10 true), none⟩] [0, 1])
  (.seq (.seq (.region [⟨some 11, .mv (.t 0 false), none⟩,
          ⟨some 12, .mv (.t 1 false), none⟩,
          ⟨some 13, .bin .sub (.c (.int .i64 4611686018427387904)) (.t 12 false), none⟩,
          ⟨some 14, .bin .gtr (.t 11 false) (.t 13 false), none⟩] [0, 1, 14])
    (.cond (.t 14 false)
      (.seq (.region [⟨some 4, .mv (.c (.int .i64 4611686018427387904)), none⟩] [4])
        (.ret))
      (.skip)))
  (.seq (.region [⟨some 15, .mv (.t 0 true), none⟩,
        ⟨some 16, .mv (.t 1 true), none⟩,
        ⟨some 17, .bin .add (.t 15 false) (.t 16 false), none⟩,
        ⟨some 4, .mv (.t 17 true), none⟩] [4])
  (.ret)))),
  [.tmp 4]⟩

/-- "saturate/cost.Uniform" -/
def i19 : IFun := ⟨true, 0,
  .seq (.region [⟨some 0, .alloc false [.int .i64 0, .int .i64 0, .int .i64 0, .int .i64 0, .int .i64 0, .int .i64 0, .int .i64 0, .int .i64 0, .int .i64 0, .int .i64 0, .int .i64 0, .int .i64 0, .int .i64 0, .int .i64 0, .int .i64 0, .int .i64 0, .int .i64 0, .int .i64 0, .int .i64 0, .int .i64 0, .int .i64 0, .int .i64 0, .int .i64 0, .int .i64 0, .int .i64 0, .int .i64 0, .int .i64 0, .int .i64 0, .int .i64 0, .int .i64 0, .int .i64 0, .int .i64 0], none⟩] [0])
  (.seq (.region [⟨some 1, .alloc false [.int .i64 0, .int .i64 0, .int .i64 0, .int .i64 0, .int .i64 0, .int .i64 0, .int .i64 0, .int .i64 0, .int .i64 0, .int .i64 0, .int .i64 0, .int .i64 0, .int .i64 0, .int .i64 0, .int .i64 0, .int .i64 0, .int .i64 0, .int .i64 0, .int .i64 0, .int .i64 0, .int .i64 0, .int .i64 0, .int .i64 0, .int .i64 0, .int .i64 0, .int .i64 0, .int .i64 0, .int .i64 0, .int .i64 0, .int .i64 0, .int .i64 0, .int .i64 0], none⟩] [0, 1])
  (.seq (.seq (.region [⟨some 3, .mv (.c (.int .i64 0)), none⟩] [0, 1, 3])
    (.block 0
      (.loop
        (.seq (.region [⟨some 4, .bin .lss (.t 3 false) (.c (.int .i64 32)), none⟩] [0, 1, 3, 4])
        (.seq (.cond (.t 4 false)
            (.skip)
            (.exit 0))
        (.seq (.block 1
            (.seq (.region [⟨some 5, .mv (.t 3 false), none⟩,
                  ⟨some 2, .mv (.t 5 true), none⟩] [0, 1, 2, 3])
            (.region [⟨some 6, .mv (.t 2 true), none⟩,
                ⟨some 7, .iaddrA (.t 1 false) (.t 6 false) 32 1, none⟩,
                ⟨none, .store (.t 7 false) (.loc 1) (.c (.int .i64 1)) 1, none⟩] [0, 1, 3])))
        (.region [⟨some 8, .bin .add (.t 3 false) (.c (.int .i64 1)), none⟩,
            ⟨some 3, .mv (.t 8 true), none⟩] [0, 1, 3])))))))
  (.seq (.region [⟨some 9, .load (.t 1 false) (.loc 1) 32 true false, none⟩,
        ⟨none, .store (.t 0 false) (.loc 0) (.t 9 true) 32, none⟩] [0])
  (.ret)))),
  [.cell 0 32 true]⟩

/-- "saturate/saturatelaw10.lives" -/
def i20 : IFun := ⟨true, 0,
  .seq (.region [⟨some 0, .mv (.c (.bool false)), none⟩] [])
  (.seq (.region [⟨some 3, .build [.int .i64 0, .int .i64 0, .int .u64 0, .str [], .list [] .nil] [(0, 1, .c (.int .i64 1)), (1, 1, .c (.int .i64 8)), (3, 1, .c (.str [120]))], none⟩,
        ⟨some 4, .build [.int .i64 0, .int .i64 0, .int .u64 0, .str [], .list [] .nil] [(0, 1, .c (.int .i64 1)), (1, 1, .c (.int .i64 8)), (3, 1, .c (.str [121]))], none⟩,
        ⟨some 5, .bslice (.agg [.int .i64 0, .int .i64 0, .int .u64 0, .str [], .list [] .nil]) 2 [(0, .t 3 true), (1, .t 4 true)], none⟩,
        ⟨some 6, .build [.int .i64 0, .int .i64 0, .int .u64 0, .str [], .list [] .nil] [(0, 1, .c (.int .i64 10)), (1, 1, .c (.int .i64 8)), (4, 1, .t 5 true)], none⟩,
        ⟨some 1, .alloc false [.int .i64 0, .int .i64 0, .int .u64 0, .str [], .list [] .nil], none⟩,
        ⟨none, .store (.t 1 false) (.loc 1) (.t 6 true) 5, none⟩] [1])
  (.seq (.region [⟨some 7, .load (.t 1 false) (.loc 1) 5 true false, none⟩,
        ⟨some 8, .load (.t 1 false) (.loc 1) 5 true false, none⟩,
        ⟨some 9, .bslice (.agg [.int .i64 0, .int .i64 0, .int .u64 0, .str [], .list [] .nil]) 2 [(0, .t 7 true), (1, .t 8 true)], none⟩,
        ⟨some 10, .build [.int .i64 0, .int .i64 0, .int .u64 0, .str [], .list [] .nil] [(0, 1, .c (.int .i64 8)), (1, 1, .c (.int .i64 8)), (4, 1, .t 9 true)], none⟩,
        ⟨some 2, .alloc false [.int .i64 0, .int .i64 0, .int .u64 0, .str [], .list [] .nil], none⟩,
        ⟨none, .store (.t 2 false) (.loc 2) (.t 10 true) 5, none⟩] [2])
  (.seq (.draw [⟨some 11, .call (.f 19) [] true, none⟩,
        ⟨some 12, .load (.t 2 false) (.loc 2) 5 true false, none⟩,
        ⟨some 13, .call (.f 22) [.t 11 true, .t 12 true] true, none⟩,
        ⟨some 14, .bin .eql (.t 13 false) (.c (.int .i64 7)), none⟩,
        ⟨some 15, .mv (.t 14 true), none⟩,
        ⟨some 16, .call (.f 19) [] true, (some (15, true))⟩,
        ⟨some 17, .load (.t 2 false) (.loc 2) 5 true false, (some (15, true))⟩,
        ⟨some 18, .bslice (.agg [.int .i64 0, .int .i64 0, .int .u64 0, .str [], .list [] .nil]) 1 [(0, .t 17 true)], (some (15, true))⟩,
        ⟨some 19, .call (.f 24) [.t 16 true, .t 18 true] true, (some (15, true))⟩,
        ⟨some 20, .bin .eql (.t 19 false) (.c (.int .i64 4)), (some (15, true))⟩,
        ⟨some 21, .pick (.t 15 false) (.t 20 false) (.c (.bool false)), none⟩,
        ⟨some 0, .mv (.t 21 true), none⟩] [0, 1, 2, 3, 4, 5, 6, 7, 8, 9, 10, 11] [2, 8] [0])
  (.ret)))),
  [.tmp 0]⟩

/-- "saturate/saturateref10.Small" -/
def i21 : IFun := ⟨true, 2,
  .seq (.region [⟨some 2, .box false (.t 0 true), none⟩,
        ⟨some 4, .mv (.c (.bool false)), none⟩] [1, 2])
  (.seq (.region [⟨some 5, .load (.t 2 false) (.loc 2) 5 true false, none⟩,
        ⟨some 6, .mv (.t 1 true), none⟩,
        ⟨some 7, .call (.f 45) [.t 5 true, .t 6 true] false, none⟩,
        ⟨some 8, .bin .geq (.t 7 false) (.c (.int .i64 0)), none⟩,
        ⟨some 4, .mv (.t 8 true), none⟩] [4])
  (.ret)),
  [.tmp 4]⟩

/-- "saturate/cost.Tree" -/
def i22 : IFun := ⟨true, 2,
  .seq (.region [⟨some 2, .box false (.t 0 true), none⟩,
        ⟨some 3, .box false (.t 1 true), none⟩,
        ⟨some 4, .mv (.c (.int .i64 0)), none⟩] [2, 3])
  (.seq (.region [⟨some 8, .load (.t 2 false) (.loc 2) 32 true false, none⟩,
        ⟨some 9, .faddr (.t 3 false) 0, none⟩,
        ⟨some 10, .load (.t 9 false) (.loc 3) 1 false false, none⟩,
        ⟨some 11, .call (.f 15) [.t 8 true, .t 10 true] false, none⟩,
        ⟨some 5, .mv (.t 11 true), none⟩] [2, 3, 5])
  (.seq (.seq (.region [⟨some 12, .faddr (.t 3 false) 4, none⟩,
          ⟨some 13, .load (.t 12 false) (.loc 3) 1 false false, none⟩,
          ⟨some 14, .len (.t 13 false) .list, none⟩,
          ⟨some 15, .mv (.c (.int .i64 0)), none⟩] [2, 5, 13, 14, 15])
    (.block 0
      (.loop
        (.seq (.region [⟨some 16, .bin .lss (.t 15 false) (.t 14 false), none⟩] [2, 5, 13, 14, 15, 16])
        (.seq (.cond (.t 16 false)
            (.skip)
            (.exit 0))
        (.seq (.block 1
            (.seq (.region [⟨some 17, .iaddrL (.t 13 false) (.t 15 false) 5, none⟩,
                  ⟨some 18, .load (.t 17 false) .elem 5 true false, none⟩,
                  ⟨some 7, .alloc false [.int .i64 0, .int .i64 0, .int .u64 0, .str [], .list [] .nil], none⟩,
                  ⟨none, .store (.t 7 false) (.loc 7) (.t 18 true) 5, none⟩] [2, 5, 7, 13, 14, 15])
            (.region [⟨some 19, .mv (.t 5 true), none⟩,
                ⟨some 20, .load (.t 2 false) (.loc 2) 32 true false, none⟩,
                ⟨some 21, .load (.t 7 false) (.loc 7) 5 true false, none⟩,
                ⟨some 22, .call (.f 22) [.t 20 true, .t 21 true] false, none⟩,
                ⟨some 23, .call (.f 17) [.t 19 true, .t 22 true] false, none⟩,
                ⟨some 5, .mv (.t 23 true), none⟩] [2, 5, 13, 14, 15])))
        (.region [⟨some 24, .bin .add (.t 15 false) (.c (.int .i64 1)), none⟩,
            ⟨some 15, .mv (.t 24 true), none⟩] [2, 5, 13, 14, 15])))))))
  (.seq (.region [⟨some 25, .mv (.t 5 true), none⟩,
        ⟨some 4, .mv (.t 25 true), none⟩] [4])
  (.ret)))),
  [.tmp 4]⟩

/-- "saturate/saturateref10.Tree" -/
def i23 : IFun := ⟨true, 2,
  .seq (.region [⟨some 2, .box false (.t 0 true), none⟩,
        ⟨some 3, .box false (.t 1 true), none⟩,
        ⟨some 4, .mv (.c (.int .i64 0)), none⟩] [2, 3])
  (.seq (.region [⟨some 7, .load (.t 2 false) (.loc 2) 32 true false, none⟩,
        ⟨some 8, .faddr (.t 3 false) 0, none⟩,
        ⟨some 9, .load (.t 8 false) (.loc 3) 1 false false, none⟩,
        ⟨some 10, .call (.f 16) [.t 7 true, .t 9 true] false, none⟩,
        ⟨some 5, .mv (.t 10 true), none⟩] [2, 3, 5])
  (.seq (.seq (.region [⟨some 11, .faddr (.t 3 false) 4, none⟩,
          ⟨some 12, .load (.t 11 false) (.loc 3) 1 false false, none⟩,
          ⟨some 13, .len (.t 12 false) .list, none⟩,
          ⟨some 14, .mv (.c (.int .i64 0)), none⟩] [2, 3, 5, 13, 14])
    (.block 0
      (.loop
        (.seq (.region [⟨some 15, .bin .lss (.t 14 false) (.t 13 false), none⟩] [2, 3, 5, 13, 14, 15])
        (.seq (.cond (.t 15 false)
            (.skip)
            (.exit 0))
        (.seq (.block 1
            (.seq (.region [⟨some 16, .mv (.t 14 false), none⟩,
                  ⟨some 6, .mv (.t 16 true), none⟩] [2, 3, 5, 6, 13, 14])
            (.draw [⟨some 17, .mv (.t 5 true), none⟩,
                ⟨some 18, .load (.t 2 false) (.loc 2) 32 true false, none⟩,
                ⟨some 19, .faddr (.t 3 false) 4, none⟩,
                ⟨some 20, .load (.t 19 false) (.loc 3) 1 false false, none⟩,
                ⟨some 21, .mv (.t 6 true), none⟩,
                ⟨some 22, .iaddrL (.t 20 false) (.t 21 false) 5, none⟩,
                ⟨some 23, .load (.t 22 false) .elem 5 true false, none⟩,
                ⟨some 24, .call (.f 23) [.t 18 true, .t 23 true] true, none⟩,
                ⟨some 25, .call (.f 18) [.t 17 true, .t 24 true] true, none⟩,
                ⟨some 5, .mv (.t 25 true), none⟩] [0, 1, 2, 3, 4, 5, 6, 7, 8, 9] [7, 8] [2, 3, 5, 13, 14])))
        (.region [⟨some 26, .bin .add (.t 14 false) (.c (.int .i64 1)), none⟩,
            ⟨some 14, .mv (.t 26 true), none⟩] [2, 3, 5, 13, 14])))))))
  (.seq (.region [⟨some 27, .mv (.t 5 true), none⟩,
        ⟨some 4, .mv (.t 27 true), none⟩] [4])
  (.ret)))),
  [.tmp 4]⟩

/-- "saturate/cost.Dag" -/
def i24 : IFun := ⟨true, 2,
  .seq (.region [⟨some 2, .box false (.t 0 true), none⟩,
        ⟨some 4, .mv (.c (.int .i64 0)), none⟩] [1, 2])
  (.seq (.region [⟨some 8, .load (.t 2 false) (.loc 2) 32 true false, none⟩,
        ⟨some 9, .mkmap, none⟩,
        ⟨some 10, .build [.int .i64 0, .int .i64 0, .int .i64 0, .int .i64 0, .int .i64 0, .int .i64 0, .int .i64 0, .int .i64 0, .int .i64 0, .int .i64 0, .int .i64 0, .int .i64 0, .int .i64 0, .int .i64 0, .int .i64 0, .int .i64 0, .int .i64 0, .int .i64 0, .int .i64 0, .int .i64 0, .int .i64 0, .int .i64 0, .int .i64 0, .int .i64 0, .int .i64 0, .int .i64 0, .int .i64 0, .int .i64 0, .int .i64 0, .int .i64 0, .int .i64 0, .int .i64 0, .nilm, .int .i64 0] [(0, 32, .t 8 true), (32, 1, .t 9 true)], none⟩,
        ⟨some 11, .box true (.t 10 true), none⟩,
        ⟨some 5, .mv (.t 11 true), none⟩] [1, 5])
  (.seq (.seq (.region [⟨some 12, .mv (.t 1 true), none⟩,
          ⟨some 13, .len (.t 12 false) .list, none⟩,
          ⟨some 14, .mv (.c (.int .i64 0)), none⟩] [5, 12, 13, 14])
    (.block 0
      (.loop
        (.seq (.region [⟨some 15, .bin .lss (.t 14 false) (.t 13 false), none⟩] [5, 12, 13, 14, 15])
        (.seq (.cond (.t 15 false)
            (.skip)
            (.exit 0))
        (.seq (.block 1
            (.seq (.region [⟨some 16, .iaddrL (.t 12 false) (.t 14 false) 5, none⟩,
                  ⟨some 17, .load (.t 16 false) .elem 5 true false, none⟩,
                  ⟨some 7, .alloc false [.int .i64 0, .int .i64 0, .int .u64 0, .str [], .list [] .nil], none⟩,
                  ⟨none, .store (.t 7 false) (.loc 7) (.t 17 true) 5, none⟩] [5, 7, 12, 13, 14])
            (.region [⟨some 18, .mv (.t 5 false), none⟩,
                ⟨some 19, .load (.t 7 false) (.loc 7) 5 true false, none⟩,
                ⟨some 20, .call (.f 46) [.t 18 true, .t 19 true] false, none⟩] [5, 12, 13, 14])))
        (.region [⟨some 21, .bin .add (.t 14 false) (.c (.int .i64 1)), none⟩,
            ⟨some 14, .mv (.t 21 true), none⟩] [5, 12, 13, 14])))))))
  (.seq (.region [⟨some 22, .mv (.t 5 true), none⟩,
        ⟨some 23, .nilchk (.t 22 false), none⟩,
        ⟨some 24, .faddr (.t 23 false) 33, none⟩,
        ⟨some 25, .load (.t 24 false) .heap 1 false false, none⟩,
        ⟨some 4, .mv (.t 25 true), none⟩] [4])
  (.ret)))),
  [.tmp 4]⟩

/-- "saturate/saturateref10.Dag" -/
def i25 : IFun := ⟨true, 2,
  .seq (.region [⟨some 2, .box false (.t 0 true), none⟩,
        ⟨some 4, .mv (.c (.int .i64 0)), none⟩] [1, 2])
  (.seq (.region [⟨some 5, .mv (.c (.list [] .nil)), none⟩] [1, 2, 5])
  (.seq (.seq (.region [⟨some 9, .mv (.t 1 false), none⟩,
          ⟨some 10, .len (.t 9 false) .list, none⟩,
          ⟨some 11, .mv (.c (.int .i64 0)), none⟩] [1, 2, 5, 10, 11])
    (.block 0
      (.loop
        (.seq (.region [⟨some 12, .bin .lss (.t 11 false) (.t 10 false), none⟩] [1, 2, 5, 10, 11, 12])
        (.seq (.cond (.t 12 false)
            (.skip)
            (.exit 0))
        (.seq (.block 1
            (.seq (.region [⟨some 13, .mv (.t 11 false), none⟩,
                  ⟨some 6, .mv (.t 13 true), none⟩] [1, 2, 5, 6, 10, 11])
            (.region [⟨some 14, .mv (.t 5 true), none⟩,
                ⟨some 15, .mv (.t 1 false), none⟩,
                ⟨some 16, .mv (.t 6 true), none⟩,
                ⟨some 17, .iaddrL (.t 15 false) (.t 16 false) 5, none⟩,
                ⟨some 18, .load (.t 17 false) .elem 5 true false, none⟩,
                ⟨some 19, .call (.f 26) [.t 14 true, .t 18 true] false, none⟩,
                ⟨some 5, .mv (.t 19 true), none⟩] [1, 2, 5, 10, 11])))
        (.region [⟨some 20, .bin .add (.t 11 false) (.c (.int .i64 1)), none⟩,
            ⟨some 11, .mv (.t 20 true), none⟩] [1, 2, 5, 10, 11])))))))
  (.seq (.region [⟨some 7, .mv (.c (.int .i64 0)), none⟩] [2, 5, 7])
  (.seq (.seq (.region [⟨some 21, .mv (.t 5 false), none⟩,
          ⟨some 22, .len (.t 21 false) .list, none⟩,
          ⟨some 23, .mv (.c (.int .i64 0)), none⟩] [2, 5, 7, 22, 23])
    (.block 2
      (.loop
        (.seq (.region [⟨some 24, .bin .lss (.t 23 false) (.t 22 false), none⟩] [2, 5, 7, 22, 23, 24])
        (.seq (.cond (.t 24 false)
            (.skip)
            (.exit 2))
        (.seq (.block 3
            (.seq (.region [⟨some 25, .mv (.t 23 false), none⟩,
                  ⟨some 8, .mv (.t 25 true), none⟩] [2, 5, 7, 8, 22, 23])
            (.draw [⟨some 26, .mv (.t 7 true), none⟩,
                ⟨some 27, .load (.t 2 false) (.loc 2) 32 true false, none⟩,
                ⟨some 28, .mv (.t 5 false), none⟩,
                ⟨some 29, .mv (.t 8 true), none⟩,
                ⟨some 30, .iaddrL (.t 28 false) (.t 29 false) 5, none⟩,
                ⟨some 31, .faddr (.t 30 false) 0, none⟩,
                ⟨some 32, .load (.t 31 false) .elem 1 false false, none⟩,
                ⟨some 33, .call (.f 16) [.t 27 true, .t 32 true] true, none⟩,
                ⟨some 34, .call (.f 18) [.t 26 true, .t 33 true] true, none⟩,
                ⟨some 7, .mv (.t 34 true), none⟩] [0, 1, 2, 3, 4, 5, 6, 7, 8, 9] [7, 8] [2, 5, 7, 22, 23])))
        (.region [⟨some 35, .bin .add (.t 23 false) (.c (.int .i64 1)), none⟩,
            ⟨some 23, .mv (.t 35 true), none⟩] [2, 5, 7, 22, 23])))))))
  (.seq (.region [⟨some 36, .mv (.t 7 true), none⟩,
        ⟨some 4, .mv (.t 36 true), none⟩] [4])
  (.ret)))))),
  [.tmp 4]⟩

/-- "saturate/saturateref10.Subterms" -/
def i26 : IFun := ⟨true, 2,
  .seq (.region [⟨some 3, .box false (.t 1 true), none⟩,
        ⟨some 4, .mv (.c (.list [] .nil)), none⟩] [0, 3])
  (.seq (.seq (.region [⟨some 8, .faddr (.t 3 false) 4, none⟩,
          ⟨some 9, .load (.t 8 false) (.loc 3) 1 false false, none⟩,
          ⟨some 10, .len (.t 9 false) .list, none⟩,
          ⟨some 11, .mv (.c (.int .i64 0)), none⟩] [0, 3, 10, 11])
    (.block 0
      (.loop
        (.seq (.region [⟨some 12, .bin .lss (.t 11 false) (.t 10 false), none⟩] [0, 3, 10, 11, 12])
        (.seq (.cond (.t 12 false)
            (.skip)
            (.exit 0))
        (.seq (.block 1
            (.seq (.region [⟨some 13, .mv (.t 11 false), none⟩,
                  ⟨some 5, .mv (.t 13 true), none⟩] [0, 3, 5, 10, 11])
            (.region [⟨some 14, .mv (.t 0 true), none⟩,
                ⟨some 15, .faddr (.t 3 false) 4, none⟩,
                ⟨some 16, .load (.t 15 false) (.loc 3) 1 false false, none⟩,
                ⟨some 17, .mv (.t 5 true), none⟩,
                ⟨some 18, .iaddrL (.t 16 false) (.t 17 false) 5, none⟩,
                ⟨some 19, .load (.t 18 false) .elem 5 true false, none⟩,
                ⟨some 20, .call (.f 26) [.t 14 true, .t 19 true] false, none⟩,
                ⟨some 0, .mv (.t 20 true), none⟩] [0, 3, 10, 11])))
        (.region [⟨some 21, .bin .add (.t 11 false) (.c (.int .i64 1)), none⟩,
            ⟨some 11, .mv (.t 21 true), none⟩] [0, 3, 10, 11])))))))
  (.seq (.seq (.region [⟨some 22, .mv (.t 0 false), none⟩,
          ⟨some 23, .len (.t 22 false) .list, none⟩,
          ⟨some 24, .mv (.c (.int .i64 0)), none⟩] [0, 3, 23, 24])
    (.block 2
      (.loop
        (.seq (.region [⟨some 25, .bin .lss (.t 24 false) (.t 23 false), none⟩] [0, 3, 23, 24, 25])
        (.seq (.cond (.t 25 false)
            (.skip)
            (.exit 2))
        (.seq (.block 3
            (.seq (.region [⟨some 26, .mv (.t 24 false), none⟩,
                  ⟨some 6, .mv (.t 26 true), none⟩] [0, 3, 6, 23, 24])
            (.seq (.draw [⟨some 27, .mv (.t 0 false), none⟩,
                  ⟨some 28, .mv (.t 6 true), none⟩,
                  ⟨some 29, .iaddrL (.t 27 false) (.t 28 false) 5, none⟩,
                  ⟨some 30, .load (.t 29 false) .elem 5 true false, none⟩,
                  ⟨some 31, .load (.t 3 false) (.loc 3) 5 true false, none⟩,
                  ⟨some 32, .call (.f 47) [.t 30 true, .t 31 true] true, none⟩] [0, 1, 2, 3, 4, 5] [5] [0, 3, 23, 24, 32])
            (.cond (.t 32 false)
              (.seq (.region [⟨some 33, .mv (.t 0 true), none⟩,
                      ⟨some 4, .mv (.t 33 true), none⟩] [4])
                (.ret))
              (.skip)))))
        (.region [⟨some 34, .bin .add (.t 24 false) (.c (.int .i64 1)), none⟩,
            ⟨some 24, .mv (.t 34 true), none⟩] [0, 3, 23, 24])))))))
  (.seq (.region [⟨some 7, .mv (.c (.list [] .nil)), none⟩] [0, 3, 7])
  (.seq (.region [⟨some 35, .mv (.t 7 true), none⟩,
        ⟨some 36, .mv (.t 0 true), none⟩,
        ⟨some 37, .append (.t 35 true) (.t 36 false) 5 64 false, none⟩,
        ⟨some 7, .mv (.t 37 true), none⟩] [3, 7])
  (.seq (.region [⟨some 38, .mv (.t 7 true), none⟩,
        ⟨some 39, .load (.t 3 false) (.loc 3) 5 true false, none⟩,
        ⟨some 40, .bslice (.agg [.int .i64 0, .int .i64 0, .int .u64 0, .str [], .list [] .nil]) 1 [(0, .t 39 true)], none⟩,
        ⟨some 41, .append (.t 38 true) (.t 40 false) 5 64 false, none⟩,
        ⟨some 4, .mv (.t 41 true), none⟩] [4])
  (.ret)))))),
  [.tmp 4]⟩

/-- "saturate/saturateref10.Count" -/
def i27 : IFun := ⟨true, 1,
  .seq (.region [⟨some 1, .box false (.t 0 true), none⟩,
        ⟨some 2, .mv (.c (.int .i64 0)), none⟩] [1])
  (.seq (.region [⟨some 3, .mv (.c (.int .i64 1)), none⟩] [1, 3])
  (.seq (.seq (.region [⟨some 5, .faddr (.t 1 false) 4, none⟩,
          ⟨some 6, .load (.t 5 false) (.loc 1) 1 false false, none⟩,
          ⟨some 7, .len (.t 6 false) .list, none⟩,
          ⟨some 8, .mv (.c (.int .i64 0)), none⟩] [1, 3, 7, 8])
    (.block 0
      (.loop
        (.seq (.region [⟨some 9, .bin .lss (.t 8 false) (.t 7 false), none⟩] [1, 3, 7, 8, 9])
        (.seq (.cond (.t 9 false)
            (.skip)
            (.exit 0))
        (.seq (.block 1
            (.seq (.region [⟨some 10, .mv (.t 8 false), none⟩,
                  ⟨some 4, .mv (.t 10 true), none⟩] [1, 3, 4, 7, 8])
            (.region [⟨some 11, .mv (.t 3 true), none⟩,
                ⟨some 12, .faddr (.t 1 false) 4, none⟩,
                ⟨some 13, .load (.t 12 false) (.loc 1) 1 false false, none⟩,
                ⟨some 14, .mv (.t 4 true), none⟩,
                ⟨some 15, .iaddrL (.t 13 false) (.t 14 false) 5, none⟩,
                ⟨some 16, .load (.t 15 false) .elem 5 true false, none⟩,
                ⟨some 17, .call (.f 27) [.t 16 true] false, none⟩,
                ⟨some 18, .bin .add (.t 11 false) (.t 17 false), none⟩,
                ⟨some 3, .mv (.t 18 true), none⟩] [1, 3, 7, 8])))
        (.region [⟨some 19, .bin .add (.t 8 false) (.c (.int .i64 1)), none⟩,
            ⟨some 8, .mv (.t 19 true), none⟩] [1, 3, 7, 8])))))))
  (.seq (.region [⟨some 20, .mv (.t 3 true), none⟩,
        ⟨some 2, .mv (.t 20 true), none⟩] [2])
  (.ret)))),
  [.tmp 2]⟩

/-- "saturate/cost.clamp" -/
def i44 : IFun := ⟨true, 1,
  .seq (.region [⟨some 2, .mv (.c (.int .i64 0)), none⟩] [0])
  (.seq (.region [⟨some 3, .mv (.t 0 true), none⟩,
        ⟨some 4, .max (.t 3 false) (.c (.int .i64 0)), none⟩,
        ⟨some 5, .min (.t 4 false) (.c (.int .i64 4611686018427387904)), none⟩,
        ⟨some 2, .mv (.t 5 true), none⟩] [2])
  (.ret)),
  [.tmp 2]⟩

/-- "saturate/saturateref10.left" -/
def i45 : IFun := ⟨true, 2,
  .seq (.region [⟨some 2, .box false (.t 0 true), none⟩,
        ⟨some 4, .mv (.c (.int .i64 0)), none⟩] [1, 2])
  (.seq (.region [⟨some 6, .mv (.t 1 true), none⟩,
        ⟨some 7, .bin .sub (.t 6 false) (.c (.int .i64 1)), none⟩,
        ⟨some 1, .mv (.t 7 true), none⟩] [1, 2])
  (.seq (.seq (.region [⟨some 8, .faddr (.t 2 false) 4, none⟩,
          ⟨some 9, .load (.t 8 false) (.loc 2) 1 false false, none⟩,
          ⟨some 10, .len (.t 9 false) .list, none⟩,
          ⟨some 11, .mv (.c (.int .i64 0)), none⟩] [1, 2, 10, 11])
    (.block 0
      (.loop
        (.seq (.region [⟨some 12, .bin .lss (.t 11 false) (.t 10 false), none⟩] [1, 2, 10, 11, 12])
        (.seq (.cond (.t 12 false)
            (.skip)
            (.exit 0))
        (.seq (.block 1
            (.seq (.region [⟨some 13, .mv (.t 11 false), none⟩,
                  ⟨some 5, .mv (.t 13 true), none⟩] [1, 2, 5, 10, 11])
            (.seq (.seq (.region [⟨some 14, .mv (.t 1 false), none⟩,
                    ⟨some 15, .bin .lss (.t 14 false) (.c (.int .i64 0)), none⟩] [1, 2, 5, 10, 11, 15])
              (.cond (.t 15 false)
                (.seq (.region [⟨some 4, .mv (.c (.int .i64 (-1))), none⟩] [4])
                  (.ret))
                (.skip)))
            (.region [⟨some 16, .faddr (.t 2 false) 4, none⟩,
                ⟨some 17, .load (.t 16 false) (.loc 2) 1 false false, none⟩,
                ⟨some 18, .mv (.t 5 true), none⟩,
                ⟨some 19, .iaddrL (.t 17 false) (.t 18 false) 5, none⟩,
                ⟨some 20, .load (.t 19 false) .elem 5 true false, none⟩,
                ⟨some 21, .mv (.t 1 true), none⟩,
                ⟨some 22, .call (.f 45) [.t 20 true, .t 21 true] false, none⟩,
                ⟨some 1, .mv (.t 22 true), none⟩] [1, 2, 10, 11]))))
        (.region [⟨some 23, .bin .add (.t 11 false) (.c (.int .i64 1)), none⟩,
            ⟨some 11, .mv (.t 23 true), none⟩] [1, 2, 10, 11])))))))
  (.seq (.region [⟨some 24, .mv (.t 1 true), none⟩,
        ⟨some 4, .mv (.t 24 true), none⟩] [4])
  (.ret)))),
  [.tmp 4]⟩

/-- "(*saturate/cost.shared).visit" -/
def i46 : IFun := ⟨false, 2,
  .seq (.region [⟨some 3, .box false (.t 1 true), none⟩] [0, 3])
  (.seq (.region [⟨some 9, .load (.t 3 false) (.loc 3) 5 true false, none⟩,
        ⟨some 10, .call (.f 59) [.t 9 true] false, none⟩,
        ⟨some 4, .mv (.t 10 true), none⟩] [0, 3, 4])
  (.seq (.seq (.region [⟨some 11, .mv (.t 0 false), none⟩,
          ⟨some 12, .nilchk (.t 11 false), none⟩,
          ⟨some 13, .faddr (.t 12 false) 32, none⟩,
          ⟨some 14, .load (.t 13 false) .heap 1 false false, none⟩,
          ⟨some 15, .mv (.t 4 false), none⟩,
          ⟨some 16, .lookup .int (.t 14 false) (.t 15 false) (.list [] .nil) false false, none⟩,
          ⟨some 17, .len (.t 16 false) .list, none⟩,
          ⟨some 18, .mv (.c (.int .i64 0)), none⟩] [0, 3, 4, 16, 17, 18])
    (.block 0
      (.loop
        (.seq (.region [⟨some 19, .bin .lss (.t 18 false) (.t 17 false), none⟩] [0, 3, 4, 16, 17, 18, 19])
        (.seq (.cond (.t 19 false)
            (.skip)
            (.exit 0))
        (.seq (.block 1
            (.seq (.region [⟨some 20, .iaddrL (.t 16 false) (.t 18 false) 5, none⟩,
                  ⟨some 21, .load (.t 20 false) .elem 5 true false, none⟩,
                  ⟨some 6, .alloc false [.int .i64 0, .int .i64 0, .int .u64 0, .str [], .list [] .nil], none⟩,
                  ⟨none, .store (.t 6 false) (.loc 6) (.t 21 true) 5, none⟩] [0, 3, 4, 6, 16, 17, 18])
            (.seq (.region [⟨some 22, .load (.t 3 false) (.loc 3) 5 true false, none⟩,
                  ⟨some 23, .load (.t 6 false) (.loc 6) 5 true false, none⟩,
                  ⟨some 24, .call (.f 60) [.t 22 true, .t 23 true] false, none⟩] [0, 3, 4, 16, 17, 18, 24])
            (.cond (.t 24 false)
              (.ret)
              (.skip)))))
        (.region [⟨some 25, .bin .add (.t 18 false) (.c (.int .i64 1)), none⟩,
            ⟨some 18, .mv (.t 25 true), none⟩] [0, 3, 4, 16, 17, 18])))))))
  (.seq (.draw [⟨some 26, .mv (.t 0 false), none⟩,
        ⟨some 27, .nilchk (.t 26 false), none⟩,
        ⟨some 28, .faddr (.t 27 false) 32, none⟩,
        ⟨some 29, .load (.t 28 false) .heap 1 false false, none⟩,
        ⟨some 30, .mv (.t 4 false), none⟩,
        ⟨some 31, .mv (.t 0 false), none⟩,
        ⟨some 32, .nilchk (.t 31 false), none⟩,
        ⟨some 33, .faddr (.t 32 false) 32, none⟩,
        ⟨some 34, .load (.t 33 false) .heap 1 false false, none⟩,
        ⟨some 35, .mv (.t 4 false), none⟩,
        ⟨some 36, .lookup .int (.t 34 false) (.t 35 false) (.list [] .nil) false true, none⟩,
        ⟨some 37, .load (.t 3 false) (.loc 3) 5 true false, none⟩,
        ⟨some 38, .bslice (.agg [.int .i64 0, .int .i64 0, .int .u64 0, .str [], .list [] .nil]) 1 [(0, .t 37 true)], none⟩,
        ⟨some 39, .append (.t 36 true) (.t 38 false) 5 64 false, none⟩,
        ⟨none, .mapset .int (.t 29 false) (.t 30 false) (.t 39 true) (.list [] .nil), none⟩] [0, 1, 2, 3, 4, 5, 6, 7, 8, 9, 10, 11, 12, 13, 14] [] [0, 3])
  (.seq (.draw [⟨some 40, .mv (.t 0 false), none⟩,
        ⟨some 41, .mv (.t 0 false), none⟩,
        ⟨some 42, .nilchk (.t 41 false), none⟩,
        ⟨some 43, .faddr (.t 42 false) 33, none⟩,
        ⟨some 44, .load (.t 43 false) .heap 1 false false, none⟩,
        ⟨some 45, .mv (.t 0 false), none⟩,
        ⟨some 46, .nilchk (.t 45 false), none⟩,
        ⟨some 47, .faddr (.t 46 false) 0, none⟩,
        ⟨some 48, .load (.t 47 false) .heap 32 true false, none⟩,
        ⟨some 49, .faddr (.t 3 false) 0, none⟩,
        ⟨some 50, .load (.t 49 false) (.loc 3) 1 false false, none⟩,
        ⟨some 51, .call (.f 15) [.t 48 true, .t 50 true] true, none⟩,
        ⟨some 52, .call (.f 17) [.t 44 true, .t 51 true] true, none⟩,
        ⟨some 53, .nilchk (.t 40 false), none⟩,
        ⟨some 54, .faddr (.t 53 false) 33, none⟩,
        ⟨none, .store (.t 54 false) .heap (.t 52 true) 1, none⟩] [0, 1, 2, 3, 4, 5, 6, 7, 8, 9, 10, 11, 12, 13, 14, 15] [11, 12] [0, 3])
  (.seq (.region [⟨some 55, .faddr (.t 3 false) 4, none⟩,
        ⟨some 56, .load (.t 55 false) (.loc 3) 1 false false, none⟩,
        ⟨some 57, .len (.t 56 false) .list, none⟩,
        ⟨some 58, .mv (.c (.int .i64 0)), none⟩] [0, 56, 57, 58])
  (.block 2
    (.loop
      (.seq (.region [⟨some 59, .bin .lss (.t 58 false) (.t 57 false), none⟩] [0, 56, 57, 58, 59])
      (.seq (.cond (.t 59 false)
          (.skip)
          (.exit 2))
      (.seq (.block 3
          (.seq (.region [⟨some 60, .iaddrL (.t 56 false) (.t 58 false) 5, none⟩,
                ⟨some 61, .load (.t 60 false) .elem 5 true false, none⟩,
                ⟨some 8, .alloc false [.int .i64 0, .int .i64 0, .int .u64 0, .str [], .list [] .nil], none⟩,
                ⟨none, .store (.t 8 false) (.loc 8) (.t 61 true) 5, none⟩] [0, 8, 56, 57, 58])
          (.region [⟨some 62, .mv (.t 0 false), none⟩,
              ⟨some 63, .load (.t 8 false) (.loc 8) 5 true false, none⟩,
              ⟨some 64, .call (.f 46) [.t 62 true, .t 63 true] false, none⟩] [0, 56, 57, 58])))
      (.region [⟨some 65, .bin .add (.t 58 false) (.c (.int .i64 1)), none⟩,
          ⟨some 58, .mv (.t 65 true), none⟩] [0, 56, 57, 58]))))))))))),
  []⟩

/-- "saturate/saturateref10.Same" -/
def i47 : IFun := ⟨true, 2,
  .seq (.region [⟨some 2, .box false (.t 0 true), none⟩,
        ⟨some 3, .box false (.t 1 true), none⟩,
        ⟨some 4, .mv (.c (.bool false)), none⟩] [2, 3])
  (.seq (.seq (.region [⟨some 6, .faddr (.t 2 false) 0, none⟩,
          ⟨some 7, .load (.t 6 false) (.loc 2) 1 false false, none⟩,
          ⟨some 8, .faddr (.t 3 false) 0, none⟩,
          ⟨some 9, .load (.t 8 false) (.loc 3) 1 false false, none⟩,
          ⟨some 10, .bin .neq (.t 7 false) (.t 9 false), none⟩,
          ⟨some 11, .mv (.t 10 true), none⟩,
          ⟨some 12, .faddr (.t 2 false) 1, (some (11, false))⟩,
          ⟨some 13, .load (.t 12 false) (.loc 2) 1 false false, (some (11, false))⟩,
          ⟨some 14, .faddr (.t 3 false) 1, (some (11, false))⟩,
          ⟨some 15, .load (.t 14 false) (.loc 3) 1 false false, (some (11, false))⟩,
          ⟨some 16, .bin .neq (.t 13 false) (.t 15 false), (some (11, false))⟩,
          ⟨some 17, .pick (.t 11 false) (.c (.bool true)) (.t 16 false), none⟩,
          ⟨some 18, .mv (.t 17 true), none⟩,
          ⟨some 19, .faddr (.t 2 false) 2, (some (18, false))⟩,
          ⟨some 20, .load (.t 19 false) (.loc 2) 1 false false, (some (18, false))⟩,
          ⟨some 21, .faddr (.t 3 false) 2, (some (18, false))⟩,
          ⟨some 22, .load (.t 21 false) (.loc 3) 1 false false, (some (18, false))⟩,
          ⟨some 23, .bin .neq (.t 20 false) (.t 22 false), (some (18, false))⟩,
          ⟨some 24, .pick (.t 18 false) (.c (.bool true)) (.t 23 false), none⟩,
          ⟨some 25, .mv (.t 24 true), none⟩,
          ⟨some 26, .faddr (.t 2 false) 3, (some (25, false))⟩,
          ⟨some 27, .load (.t 26 false) (.loc 2) 1 false false, (some (25, false))⟩,
          ⟨some 28, .faddr (.t 3 false) 3, (some (25, false))⟩,
          ⟨some 29, .load (.t 28 false) (.loc 3) 1 false false, (some (25, false))⟩,
          ⟨some 30, .bin .neq (.t 27 false) (.t 29 false), (some (25, false))⟩,
          ⟨some 31, .pick (.t 25 false) (.c (.bool true)) (.t 30 false), none⟩,
          ⟨some 32, .mv (.t 31 true), none⟩,
          ⟨some 33, .faddr (.t 2 false) 4, (some (32, false))⟩,
          ⟨some 34, .load (.t 33 false) (.loc 2) 1 false false, (some (32, false))⟩,
          ⟨some 35, .len (.t 34 false) .list, (some (32, false))⟩,
          ⟨some 36, .faddr (.t 3 false) 4, (some (32, false))⟩,
          ⟨some 37, .load (.t 36 false) (.loc 3) 1 false false, (some (32, false))⟩,
          ⟨some 38, .len (.t 37 false) .list, (some (32, false))⟩,
          ⟨some 39, .bin .neq (.t 35 false) (.t 38 false), (some (32, false))⟩,
          ⟨some 40, .pick (.t 32 false) (.c (.bool true)) (.t 39 false), none⟩] [2, 3, 40])
    (.cond (.t 40 false)
      (.seq (.region [⟨some 4, .mv (.c (.bool false)), none⟩] [4])
        (.ret))
      (.skip)))
  (.seq (.seq (.region [⟨some 41, .faddr (.t 2 false) 4, none⟩,
          ⟨some 42, .load (.t 41 false) (.loc 2) 1 false false, none⟩,
          ⟨some 43, .len (.t 42 false) .list, none⟩,
          ⟨some 44, .mv (.c (.int .i64 0)), none⟩] [2, 3, 43, 44])
    (.block 0
      (.loop
        (.seq (.region [⟨some 45, .bin .lss (.t 44 false) (.t 43 false), none⟩] [2, 3, 43, 44, 45])
        (.seq (.cond (.t 45 false)
            (.skip)
            (.exit 0))
        (.seq (.block 1
            (.seq (.region [⟨some 46, .mv (.t 44 false), none⟩,
                  ⟨some 5, .mv (.t 46 true), none⟩] [2, 3, 5, 43, 44])
            (.seq (.draw [⟨some 47, .faddr (.t 2 false) 4, none⟩,
                  ⟨some 48, .load (.t 47 false) (.loc 2) 1 false false, none⟩,
                  ⟨some 49, .mv (.t 5 false), none⟩,
                  ⟨some 50, .iaddrL (.t 48 false) (.t 49 false) 5, none⟩,
                  ⟨some 51, .load (.t 50 false) .elem 5 true false, none⟩,
                  ⟨some 52, .faddr (.t 3 false) 4, none⟩,
                  ⟨some 53, .load (.t 52 false) (.loc 3) 1 false false, none⟩,
                  ⟨some 54, .mv (.t 5 false), none⟩,
                  ⟨some 55, .iaddrL (.t 53 false) (.t 54 false) 5, none⟩,
                  ⟨some 56, .load (.t 55 false) .elem 5 true false, none⟩,
                  ⟨some 57, .call (.f 47) [.t 51 true, .t 56 true] true, none⟩,
                  ⟨some 58, .un .not (.t 57 false), none⟩] [0, 1, 2, 3, 4, 5, 6, 7, 8, 9, 10, 11] [10] [2, 3, 43, 44, 58])
            (.cond (.t 58 false)
              (.seq (.region [⟨some 4, .mv (.c (.bool false)), none⟩] [4])
                (.ret))
              (.skip)))))
        (.region [⟨some 59, .bin .add (.t 44 false) (.c (.int .i64 1)), none⟩,
            ⟨some 44, .mv (.t 59 true), none⟩] [2, 3, 43, 44])))))))
  (.seq (.region [⟨some 4, .mv (.c (.bool true)), none⟩] [4])
  (.ret)))),
  [.tmp 4]⟩

/-- "saturate/term.Size" -/
def i59 : IFun := ⟨true, 1,
  .seq (.region [⟨some 1, .box false (.t 0 true), none⟩,
        ⟨some 2, .mv (.c (.int .i64 0)), none⟩] [1])
  (.seq (.region [⟨some 3, .mv (.c (.int .i64 1)), none⟩] [1, 3])
  (.seq (.seq (.region [⟨some 6, .faddr (.t 1 false) 4, none⟩,
          ⟨some 7, .load (.t 6 false) (.loc 1) 1 false false, none⟩,
          ⟨some 8, .len (.t 7 false) .list, none⟩,
          ⟨some 9, .mv (.c (.int .i64 0)), none⟩] [3, 7, 8, 9])
    (.block 0
      (.loop
        (.seq (.region [⟨some 10, .bin .lss (.t 9 false) (.t 8 false), none⟩] [3, 7, 8, 9, 10])
        (.seq (.cond (.t 10 false)
            (.skip)
            (.exit 0))
        (.seq (.block 1
            (.seq (.region [⟨some 11, .iaddrL (.t 7 false) (.t 9 false) 5, none⟩,
                  ⟨some 12, .load (.t 11 false) .elem 5 true false, none⟩,
                  ⟨some 5, .alloc false [.int .i64 0, .int .i64 0, .int .u64 0, .str [], .list [] .nil], none⟩,
                  ⟨none, .store (.t 5 false) (.loc 5) (.t 12 true) 5, none⟩] [3, 5, 7, 8, 9])
            (.region [⟨some 13, .mv (.t 3 true), none⟩,
                ⟨some 14, .load (.t 5 false) (.loc 5) 5 true false, none⟩,
                ⟨some 15, .call (.f 59) [.t 14 true] false, none⟩,
                ⟨some 16, .bin .add (.t 13 false) (.t 15 false), none⟩,
                ⟨some 3, .mv (.t 16 true), none⟩] [3, 7, 8, 9])))
        (.region [⟨some 17, .bin .add (.t 9 false) (.c (.int .i64 1)), none⟩,
            ⟨some 9, .mv (.t 17 true), none⟩] [3, 7, 8, 9])))))))
  (.seq (.region [⟨some 18, .mv (.t 3 true), none⟩,
        ⟨some 2, .mv (.t 18 true), none⟩] [2])
  (.ret)))),
  [.tmp 2]⟩

/-- "saturate/term.Same" -/
def i60 : IFun := ⟨true, 2,
  .seq (.region [⟨some 2, .box false (.t 0 true), none⟩,
        ⟨some 3, .box false (.t 1 true), none⟩,
        ⟨some 4, .mv (.c (.bool false)), none⟩] [2, 3])
  (.seq (.seq (.region [⟨some 5, .faddr (.t 2 false) 0, none⟩,
          ⟨some 6, .load (.t 5 false) (.loc 2) 1 false false, none⟩,
          ⟨some 7, .faddr (.t 3 false) 0, none⟩,
          ⟨some 8, .load (.t 7 false) (.loc 3) 1 false false, none⟩,
          ⟨some 9, .bin .neq (.t 6 false) (.t 8 false), none⟩,
          ⟨some 10, .mv (.t 9 true), none⟩,
          ⟨some 11, .faddr (.t 2 false) 1, (some (10, false))⟩,
          ⟨some 12, .load (.t 11 false) (.loc 2) 1 false false, (some (10, false))⟩,
          ⟨some 13, .faddr (.t 3 false) 1, (some (10, false))⟩,
          ⟨some 14, .load (.t 13 false) (.loc 3) 1 false false, (some (10, false))⟩,
          ⟨some 15, .bin .neq (.t 12 false) (.t 14 false), (some (10, false))⟩,
          ⟨some 16, .pick (.t 10 false) (.c (.bool true)) (.t 15 false), none⟩,
          ⟨some 17, .mv (.t 16 true), none⟩,
          ⟨some 18, .faddr (.t 2 false) 2, (some (17, false))⟩,
          ⟨some 19, .load (.t 18 false) (.loc 2) 1 false false, (some (17, false))⟩,
          ⟨some 20, .faddr (.t 3 false) 2, (some (17, false))⟩,
          ⟨some 21, .load (.t 20 false) (.loc 3) 1 false false, (some (17, false))⟩,
          ⟨some 22, .bin .neq (.t 19 false) (.t 21 false), (some (17, false))⟩,
          ⟨some 23, .pick (.t 17 false) (.c (.bool true)) (.t 22 false), none⟩,
          ⟨some 24, .mv (.t 23 true), none⟩,
          ⟨some 25, .faddr (.t 2 false) 3, (some (24, false))⟩,
          ⟨some 26, .load (.t 25 false) (.loc 2) 1 false false, (some (24, false))⟩,
          ⟨some 27, .faddr (.t 3 false) 3, (some (24, false))⟩,
          ⟨some 28, .load (.t 27 false) (.loc 3) 1 false false, (some (24, false))⟩,
          ⟨some 29, .bin .neq (.t 26 false) (.t 28 false), (some (24, false))⟩,
          ⟨some 30, .pick (.t 24 false) (.c (.bool true)) (.t 29 false), none⟩] [2, 3, 30])
    (.cond (.t 30 false)
      (.seq (.region [⟨some 4, .mv (.c (.bool false)), none⟩] [4])
        (.ret))
      (.skip)))
  (.seq (.region [⟨some 31, .faddr (.t 2 false) 4, none⟩,
        ⟨some 32, .load (.t 31 false) (.loc 2) 1 false false, none⟩,
        ⟨some 33, .faddr (.t 3 false) 4, none⟩,
        ⟨some 34, .load (.t 33 false) (.loc 3) 1 false false, none⟩,
        ⟨some 35, .call (.f 69) [.t 32 true, .t 34 true, .f 60] false, none⟩,
        ⟨some 4, .mv (.t 35 true), none⟩] [4])
  (.ret))),
  [.tmp 4]⟩

/-- "slices.EqualFunc[[]saturate/api.Term,[]saturate/api.Term,saturate/api.Term,saturate/api.Term]" -/
def i69 : IFun := ⟨true, 3,
  .seq (.region [⟨some 6, .mv (.c (.bool false)), none⟩] [0, 1, 2])
  (.seq (.seq (.region [⟨some 10, .mv (.t 0 false), none⟩,
          ⟨some 11, .len (.t 10 false) .list, none⟩,
          ⟨some 12, .mv (.t 1 false), none⟩,
          ⟨some 13, .len (.t 12 false) .list, none⟩,
          ⟨some 14, .bin .neq (.t 11 false) (.t 13 false), none⟩] [0, 1, 2, 14])
    (.cond (.t 14 false)
      (.seq (.region [⟨some 6, .mv (.c (.bool false)), none⟩] [6])
        (.ret))
      (.skip)))
  (.seq (.seq (.region [⟨some 15, .mv (.t 0 true), none⟩,
          ⟨some 16, .len (.t 15 false) .list, none⟩,
          ⟨some 17, .mv (.c (.int .i64 0)), none⟩] [1, 2, 15, 16, 17])
    (.block 0
      (.loop
        (.seq (.region [⟨some 18, .bin .lss (.t 17 false) (.t 16 false), none⟩] [1, 2, 15, 16, 17, 18])
        (.seq (.cond (.t 18 false)
            (.skip)
            (.exit 0))
        (.seq (.block 1
            (.seq (.region [⟨some 19, .mv (.t 17 false), none⟩,
                  ⟨some 20, .iaddrL (.t 15 false) (.t 17 false) 5, none⟩,
                  ⟨some 21, .load (.t 20 false) .elem 5 true false, none⟩,
                  ⟨some 8, .alloc false [.int .i64 0, .int .i64 0, .int .u64 0, .str [], .list [] .nil], none⟩,
                  ⟨some 7, .mv (.t 19 true), none⟩,
                  ⟨none, .store (.t 8 false) (.loc 8) (.t 21 true) 5, none⟩] [1, 2, 7, 8, 15, 16, 17])
            (.seq (.region [⟨some 22, .mv (.t 1 false), none⟩,
                  ⟨some 23, .mv (.t 7 true), none⟩,
                  ⟨some 24, .iaddrL (.t 22 false) (.t 23 false) 5, none⟩,
                  ⟨some 25, .load (.t 24 false) .elem 5 true false, none⟩,
                  ⟨some 9, .alloc false [.int .i64 0, .int .i64 0, .int .u64 0, .str [], .list [] .nil], none⟩,
                  ⟨none, .store (.t 9 false) (.loc 9) (.t 25 true) 5, none⟩] [1, 2, 8, 9, 15, 16, 17])
            (.seq (.region [⟨some 26, .mv (.t 2 false), none⟩,
                  ⟨some 27, .load (.t 8 false) (.loc 8) 5 true false, none⟩,
                  ⟨some 28, .load (.t 9 false) (.loc 9) 5 true false, none⟩,
                  ⟨some 29, .call (.t 26 false) [.t 27 true, .t 28 true] false, none⟩,
                  ⟨some 30, .un .not (.t 29 false), none⟩] [1, 2, 15, 16, 17, 30])
            (.cond (.t 30 false)
              (.seq (.region [⟨some 6, .mv (.c (.bool false)), none⟩] [6])
                (.ret))
              (.skip))))))
        (.region [⟨some 31, .bin .add (.t 17 false) (.c (.int .i64 1)), none⟩,
            ⟨some 17, .mv (.t 31 true), none⟩] [1, 2, 15, 16, 17])))))))
  (.seq (.region [⟨some 6, .mv (.c (.bool true)), none⟩] [6])
  (.ret)))),
  [.tmp 6]⟩

def IP : IProg := fun f =>
  if f = 3 then some i3 else
  if f = 4 then some i4 else
  if f = 5 then some i5 else
  if f = 6 then some i6 else
  if f = 7 then some i7 else
  if f = 8 then some i8 else
  if f = 15 then some i15 else
  if f = 16 then some i16 else
  if f = 17 then some i17 else
  if f = 18 then some i18 else
  if f = 19 then some i19 else
  if f = 20 then some i20 else
  if f = 21 then some i21 else
  if f = 22 then some i22 else
  if f = 23 then some i23 else
  if f = 24 then some i24 else
  if f = 25 then some i25 else
  if f = 26 then some i26 else
  if f = 27 then some i27 else
  if f = 44 then some i44 else
  if f = 45 then some i45 else
  if f = 46 then some i46 else
  if f = 47 then some i47 else
  if f = 59 then some i59 else
  if f = 60 then some i60 else
  if f = 69 then some i69 else
  none
def G0 : Nat → Option (List AV) := fun _ => none
end Go.Proofs.Ytajlmldpbhendaa.Rf
