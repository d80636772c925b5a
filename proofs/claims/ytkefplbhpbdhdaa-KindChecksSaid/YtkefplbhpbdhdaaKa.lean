/- What the functions that KindChecks reaches compute, each told by the calculus of the evaluator. -/
import Derived.Test.YtkefplbhpbdhdaaDa
import Derived.Test.YtkefplbhpbdhdaaDc
import Derived.Test.YtkefplbhpbdhdaaProg
import Derived.KernelRfl
set_option linter.all false
namespace Go.Dev.KC
open Go Go.Dev
set_option maxRecDepth 100000
def c3 : DCode :=
 .seq (.region [⟨some 2, .box 24 (.t 0), none, false⟩,
    ⟨some 3, .box 24 (.t 1), none, false⟩,
    ⟨some 4, .mv (.c (.one (.v (.s (.bool false))))), none, false⟩] []) (.seq (.seq (.region [⟨some 18, .load (some 2) (.t 2), none, false⟩,
      ⟨some 19, .call (.c (.one (.fn (.func 7) [] []))) [(.t 18)], none, false⟩,
      ⟨some 20, .un .not (.t 19), none, false⟩,
      ⟨some 21, .mv (.t 20), none, false⟩,
      ⟨some 22, .load (some 2) (.t 3), (some (21, false)), false⟩,
      ⟨some 23, .call (.c (.one (.fn (.func 7) [] []))) [(.t 22)], (some (21, false)), false⟩,
      ⟨some 24, .un .not (.t 23), (some (21, false)), false⟩,
      ⟨some 25, .pick (.t 21) (.c (.one (.v (.s (.bool true))))) (.t 24), none, false⟩] []) (.cond (.t 25) (.seq (.region [⟨some 26, .call (.c (.one (.fn (.func 8) [] []))) [], none, false⟩,
        ⟨some 4, .mv (.t 26), none, false⟩] []) (.ret)) (.skip))) (.seq (.region [⟨some 27, .load (some 2) (.t 2), none, false⟩,
      ⟨some 28, .call (.c (.one (.fn (.func 9) [] []))) [(.t 27)], none, false⟩,
      ⟨some 29, .load (some 2) (.t 3), none, false⟩,
      ⟨some 30, .call (.c (.one (.fn (.func 9) [] []))) [(.t 29)], none, false⟩,
      ⟨some 5, .alloc 29 [.v (.s (.int .i64 0)), .esl], none, false⟩,
      ⟨some 6, .alloc 29 [.v (.s (.int .i64 0)), .esl], none, false⟩,
      ⟨none, .store 2 (.t 5) (.t 28), none, false⟩,
      ⟨none, .store 2 (.t 6) (.t 30), none, false⟩] [(1, 2), (0, 4), (1, 4), (2, 4), (3, 4), (0, 5), (1, 5), (2, 5), (3, 5), (4, 5)]) (.seq (.region [⟨some 31, .load (some 2) (.t 5), none, false⟩,
       ⟨some 32, .call (.c (.one (.fn (.func 10) [] []))) [(.t 31), (.c (.one (.v (.s (.int .i64 6)))))], none, false⟩,
       ⟨some 33, .load (some 2) (.t 6), none, false⟩,
       ⟨some 34, .call (.c (.one (.fn (.func 10) [] []))) [(.t 33), (.c (.one (.v (.s (.int .i64 6)))))], none, false⟩,
       ⟨some 7, .mv (.t 32), none, false⟩,
       ⟨some 8, .mv (.t 34), none, false⟩] [(1, 2)]) (.seq (.region [⟨some 36, .load (some 2) (.t 2), none, false⟩,
        ⟨some 37, .call (.c (.one (.fn (.func 11) [] []))) [(.t 36)], none, false⟩,
        ⟨some 35, .mv (.t 37), none, false⟩,
        ⟨some 38, .extract (.t 35) 0, none, false⟩,
        ⟨some 39, .extract (.t 35) 1, none, false⟩,
        ⟨some 9, .mv (.t 38), none, false⟩,
        ⟨some 10, .mv (.t 39), none, false⟩] []) (.seq (.region [⟨some 41, .load (some 2) (.t 2), none, false⟩,
         ⟨some 42, .call (.c (.one (.fn (.func 12) [] []))) [(.t 41)], none, false⟩,
         ⟨some 40, .mv (.t 42), none, false⟩,
         ⟨some 43, .extract (.t 40) 0, none, false⟩,
         ⟨some 44, .extract (.t 40) 1, none, false⟩,
         ⟨some 11, .mv (.t 43), none, false⟩,
         ⟨some 12, .mv (.t 44), none, false⟩] []) (.seq (.region [⟨some 46, .load (some 2) (.t 2), none, false⟩,
          ⟨some 47, .call (.c (.one (.fn (.func 13) [] []))) [(.t 46)], none, false⟩,
          ⟨some 45, .mv (.t 47), none, false⟩,
          ⟨some 48, .extract (.t 45) 0, none, false⟩,
          ⟨some 49, .extract (.t 45) 1, none, false⟩,
          ⟨some 13, .alloc 40 [.v (.s (.int .i64 0)), .v (.s (.int .i64 0)), .v (.s (.string ⟨#[]⟩)), .v (.s (.complex .f64 0 0)), .esl], none, false⟩,
          ⟨none, .store 5 (.t 13) (.t 48), none, false⟩,
          ⟨some 14, .mv (.t 49), none, false⟩] []) (.seq (.region [⟨some 51, .faddr 0 (.t 2), none, false⟩,
           ⟨some 52, .load none (.t 51), none, false⟩,
           ⟨some 53, .faddr 1 (.t 2), none, false⟩,
           ⟨some 54, .load none (.t 53), none, false⟩,
           ⟨some 55, .call (.c (.one (.fn (.func 14) [] []))) [(.t 52), (.t 54)], none, true⟩,
           ⟨some 50, .mv (.t 55), none, false⟩,
           ⟨some 56, .extract (.t 50) 0, none, false⟩,
           ⟨some 57, .extract (.t 50) 1, none, false⟩,
           ⟨some 15, .alloc 24 [.v (.s (.int .i64 0)), .esl], none, false⟩,
           ⟨none, .store 2 (.t 15) (.t 56), none, false⟩,
           ⟨some 16, .mv (.t 57), none, false⟩] []) (.seq (.seq (.region [⟨some 58, .load (some 2) (.t 2), none, false⟩,
             ⟨some 59, .load (some 2) (.t 3), none, false⟩,
             ⟨some 60, .call (.c (.one (.fn (.func 15) [] []))) [(.t 58), (.t 59)], none, false⟩,
             ⟨some 61, .mv (.t 7), none, false⟩,
             ⟨some 62, .mv (.t 61), none, false⟩,
             ⟨some 63, .mv (.t 8), (some (62, true)), false⟩,
             ⟨some 64, .pick (.t 62) (.t 63) (.c (.one (.v (.s (.bool false))))), none, false⟩,
             ⟨some 65, .mv (.t 64), none, false⟩,
             ⟨some 66, .load (some 2) (.t 5), (some (65, true)), false⟩,
             ⟨some 67, .load (some 2) (.t 6), (some (65, true)), false⟩,
             ⟨some 68, .call (.c (.one (.fn (.func 16) [] []))) [(.t 66), (.t 67)], (some (65, true)), false⟩,
             ⟨some 69, .pick (.t 65) (.t 68) (.c (.one (.v (.s (.bool false))))), none, false⟩,
             ⟨some 70, .beq true (.t 60) (.t 69), none, false⟩] []) (.cond (.t 70) (.seq (.region [⟨some 4, .mv (.c (.one (.v (.s (.bool false))))), none, false⟩] []) (.ret)) (.skip))) (.seq (.seq (.region [⟨some 71, .mv (.t 7), none, false⟩,
              ⟨some 72, .un .not (.t 71), none, false⟩] []) (.cond (.t 72) (.seq (.region [⟨some 73, .load (some 2) (.t 2), none, false⟩,
                ⟨some 74, .call (.c (.one (.fn (.func 17) [] []))) [(.t 73)], none, false⟩,
                ⟨some 75, .bin .eql (.t 74) (.c (.one (.v (.s (.int .i64 20))))), none, false⟩,
                ⟨some 76, .mv (.t 75), none, false⟩,
                ⟨some 77, .mv (.t 10), (some (76, true)), false⟩,
                ⟨some 78, .bin .eql (.t 77) (.c (.one (.v (.s (.int .i64 20))))), (some (76, true)), false⟩,
                ⟨some 79, .pick (.t 76) (.t 78) (.c (.one (.v (.s (.bool false))))), none, false⟩,
                ⟨some 80, .mv (.t 79), none, false⟩,
                ⟨some 81, .mv (.t 12), (some (80, true)), false⟩,
                ⟨some 82, .bin .eql (.t 81) (.c (.one (.v (.s (.int .i64 20))))), (some (80, true)), false⟩,
                ⟨some 83, .pick (.t 80) (.t 82) (.c (.one (.v (.s (.bool false))))), none, false⟩,
                ⟨some 84, .mv (.t 83), none, false⟩,
                ⟨some 85, .mv (.t 14), (some (84, true)), false⟩,
                ⟨some 86, .bin .eql (.t 85) (.c (.one (.v (.s (.int .i64 20))))), (some (84, true)), false⟩,
                ⟨some 87, .pick (.t 84) (.t 86) (.c (.one (.v (.s (.bool false))))), none, false⟩,
                ⟨some 88, .mv (.t 87), none, false⟩,
                ⟨some 89, .mv (.t 16), (some (88, true)), false⟩,
                ⟨some 90, .bin .eql (.t 89) (.c (.one (.v (.s (.int .i64 20))))), (some (88, true)), false⟩,
                ⟨some 91, .pick (.t 88) (.t 90) (.c (.one (.v (.s (.bool false))))), none, false⟩,
                ⟨some 92, .mv (.t 91), none, false⟩,
                ⟨some 93, .mv (.t 9), (some (92, true)), false⟩,
                ⟨some 94, .bin .eql (.t 93) (.c (.one (.v (.s (.string ⟨#[]⟩))))), (some (92, true)), false⟩,
                ⟨some 95, .pick (.t 92) (.t 94) (.c (.one (.v (.s (.bool false))))), none, false⟩,
                ⟨some 96, .mv (.t 95), none, false⟩,
                ⟨some 97, .mv (.t 11), (some (96, true)), false⟩,
                ⟨some 98, .bin .eql (.t 97) (.c (.one (.v (.s (.int .i64 0))))), (some (96, true)), false⟩,
                ⟨some 99, .pick (.t 96) (.t 98) (.c (.one (.v (.s (.bool false))))), none, false⟩,
                ⟨some 100, .mv (.t 99), none, false⟩,
                ⟨some 101, .faddr 0 (.t 13), (some (100, true)), false⟩,
                ⟨some 102, .load none (.t 101), (some (100, true)), false⟩,
                ⟨some 103, .bin .eql (.t 102) (.c (.one (.v (.s (.int .i64 0))))), (some (100, true)), false⟩,
                ⟨some 104, .pick (.t 100) (.t 103) (.c (.one (.v (.s (.bool false))))), none, false⟩,
                ⟨some 105, .mv (.t 104), none, false⟩,
                ⟨some 106, .faddr 0 (.t 15), (some (105, true)), false⟩,
                ⟨some 107, .load none (.t 106), (some (105, true)), false⟩,
                ⟨some 108, .bin .eql (.t 107) (.c (.one (.v (.s (.int .i64 0))))), (some (105, true)), false⟩,
                ⟨some 109, .pick (.t 105) (.t 108) (.c (.one (.v (.s (.bool false))))), none, false⟩,
                ⟨some 110, .mv (.t 109), none, false⟩,
                ⟨some 111, .call (.c (.one (.fn (.func 8) [] []))) [], (some (110, true)), false⟩,
                ⟨some 112, .pick (.t 110) (.t 111) (.c (.one (.v (.s (.bool false))))), none, false⟩,
                ⟨some 4, .mv (.t 112), none, false⟩] []) (.ret)) (.skip))) (.seq (.seq (.region [⟨some 113, .load (some 2) (.t 15), none, false⟩,
               ⟨some 114, .call (.c (.one (.fn (.func 9) [] []))) [(.t 113)], none, false⟩,
               ⟨some 115, .load (some 2) (.t 5), none, false⟩,
               ⟨some 116, .call (.c (.one (.fn (.func 16) [] []))) [(.t 114), (.t 115)], none, false⟩,
               ⟨some 117, .un .not (.t 116), none, false⟩] [(1, 2)]) (.cond (.t 117) (.seq (.region [⟨some 4, .mv (.c (.one (.v (.s (.bool false))))), none, false⟩] []) (.ret)) (.skip))) (.seq (.seq (.region [⟨some 118, .alloc 4 [.v (.s (.bool false))], none, false⟩,
                ⟨none, .store 1 (.t 118) (.c (.one (.v (.s (.bool true))))), none, false⟩,
                ⟨none, .store 1 (.t 118) (.c (.one (.v (.s (.bool false))))), none, false⟩,
                ⟨some 119, .load none (.t 118), none, false⟩] [(1, 2)]) (.cond (.t 119) (.seq (.region [⟨some 120, .faddr 1 (.t 15), none, false⟩,
                  ⟨some 121, .load none (.t 120), none, false⟩,
                  ⟨some 122, .len false (.t 121), none, false⟩,
                  ⟨some 123, .bin .neq (.t 122) (.c (.one (.v (.s (.int .i64 0))))), none, false⟩] []) (.cond (.t 123) (.seq (.seq (.region [⟨some 124, .mv (.c (.one (.v (.s (.int .i64 0))))), none, false⟩] []) (.block 0 (.loop (.seq (.region [⟨some 125, .bin .lss (.t 124) (.t 122), none, false⟩] []) (.seq (.cond (.t 125) (.skip) (.exit 0)) (.seq (.region [⟨some 126, .iaddr 2 (.t 121) (.t 124), none, false⟩,
                          ⟨none, .store 2 (.t 126) (.c (.agg [.v (.s (.int .i64 0)), .esl])), none, false⟩] []) (.region [⟨some 127, .bin .add (.t 124) (.c (.one (.v (.s (.int .i64 1))))), none, false⟩,
                          ⟨some 124, .mv (.t 127), none, false⟩] []))))))) (.region [⟨some 128, .bin .sub (.t 122) (.c (.one (.v (.s (.int .i64 1))))), none, false⟩,
                    ⟨some 17, .mv (.t 128), none, false⟩] [])) (.skip))) (.seq (.region [⟨some 129, .faddr 1 (.t 15), none, false⟩,
                  ⟨some 130, .load none (.t 129), none, false⟩,
                  ⟨some 131, .len false (.t 130), none, false⟩,
                  ⟨some 132, .mv (.c (.one (.v (.s (.int .i64 0))))), none, false⟩] []) (.block 1 (.loop (.seq (.region [⟨some 133, .bin .lss (.t 132) (.t 131), none, false⟩] []) (.seq (.cond (.t 133) (.skip) (.exit 1)) (.seq (.block 2 (.seq (.region [⟨some 134, .mv (.t 132), none, false⟩,
                         ⟨some 17, .mv (.t 134), none, false⟩] []) (.region [⟨some 135, .faddr 1 (.t 15), none, false⟩,
                         ⟨some 136, .load none (.t 135), none, false⟩,
                         ⟨some 137, .mv (.t 17), none, false⟩,
                         ⟨some 138, .build [.v (.s (.int .i64 0)), .esl] [], none, false⟩,
                         ⟨some 139, .iaddr 2 (.t 136) (.t 137), none, false⟩,
                         ⟨none, .store 2 (.t 139) (.t 138), none, false⟩] []))) (.region [⟨some 140, .bin .add (.t 132) (.c (.one (.v (.s (.int .i64 1))))), none, false⟩,
                       ⟨some 132, .mv (.t 140), none, false⟩] []))))))))) (.seq (.region [⟨some 141, .load (some 2) (.t 2), none, false⟩,
                ⟨some 142, .call (.c (.one (.fn (.func 17) [] []))) [(.t 141)], none, false⟩,
                ⟨some 143, .bin .eql (.t 142) (.c (.one (.v (.s (.int .i64 0))))), none, false⟩,
                ⟨some 144, .mv (.t 143), none, false⟩,
                ⟨some 145, .mv (.t 10), (some (144, true)), false⟩,
                ⟨some 146, .bin .eql (.t 145) (.c (.one (.v (.s (.int .i64 0))))), (some (144, true)), false⟩,
                ⟨some 147, .pick (.t 144) (.t 146) (.c (.one (.v (.s (.bool false))))), none, false⟩,
                ⟨some 148, .mv (.t 147), none, false⟩,
                ⟨some 149, .mv (.t 12), (some (148, true)), false⟩,
                ⟨some 150, .bin .eql (.t 149) (.c (.one (.v (.s (.int .i64 0))))), (some (148, true)), false⟩,
                ⟨some 151, .pick (.t 148) (.t 150) (.c (.one (.v (.s (.bool false))))), none, false⟩,
                ⟨some 152, .mv (.t 151), none, false⟩,
                ⟨some 153, .mv (.t 14), (some (152, true)), false⟩,
                ⟨some 154, .bin .eql (.t 153) (.c (.one (.v (.s (.int .i64 0))))), (some (152, true)), false⟩,
                ⟨some 155, .pick (.t 152) (.t 154) (.c (.one (.v (.s (.bool false))))), none, false⟩,
                ⟨some 156, .mv (.t 155), none, false⟩,
                ⟨some 157, .mv (.t 16), (some (156, true)), false⟩,
                ⟨some 158, .bin .eql (.t 157) (.c (.one (.v (.s (.int .i64 0))))), (some (156, true)), false⟩,
                ⟨some 159, .pick (.t 156) (.t 158) (.c (.one (.v (.s (.bool false))))), none, false⟩,
                ⟨some 160, .mv (.t 159), none, false⟩,
                ⟨some 161, .mv (.t 9), (some (160, true)), false⟩,
                ⟨some 162, .load (some 2) (.t 5), (some (160, true)), false⟩,
                ⟨some 163, .call (.c (.one (.fn (.func 18) [] []))) [(.t 162)], (some (160, true)), false⟩,
                ⟨some 164, .bin .eql (.t 161) (.t 163), (some (160, true)), false⟩,
                ⟨some 165, .pick (.t 160) (.t 164) (.c (.one (.v (.s (.bool false))))), none, false⟩,
                ⟨some 166, .mv (.t 165), none, false⟩,
                ⟨some 167, .mv (.t 11), (some (166, true)), false⟩,
                ⟨some 168, .load (some 2) (.t 5), (some (166, true)), false⟩,
                ⟨some 169, .call (.c (.one (.fn (.func 19) [] []))) [(.t 168)], (some (166, true)), false⟩,
                ⟨some 170, .bin .eql (.t 167) (.t 169), (some (166, true)), false⟩,
                ⟨some 171, .pick (.t 166) (.t 170) (.c (.one (.v (.s (.bool false))))), none, false⟩,
                ⟨some 172, .mv (.t 171), none, false⟩,
                ⟨some 173, .load (some 5) (.t 13), (some (172, true)), false⟩,
                ⟨some 174, .load (some 2) (.t 5), (some (172, true)), false⟩,
                ⟨some 175, .call (.c (.one (.fn (.func 21) [] []))) [(.t 174)], (some (172, true)), false⟩,
                ⟨some 176, .call (.c (.one (.fn (.func 20) [] []))) [(.t 173), (.t 175)], (some (172, true)), false⟩,
                ⟨some 177, .pick (.t 172) (.t 176) (.c (.one (.v (.s (.bool false))))), none, false⟩,
                ⟨some 178, .mv (.t 177), none, false⟩,
                ⟨some 179, .load (some 2) (.t 2), (some (178, true)), false⟩,
                ⟨some 180, .call (.c (.one (.fn (.func 9) [] []))) [(.t 179)], (some (178, true)), false⟩,
                ⟨some 181, .load (some 2) (.t 5), (some (178, true)), false⟩,
                ⟨some 182, .call (.c (.one (.fn (.func 16) [] []))) [(.t 180), (.t 181)], (some (178, true)), false⟩,
                ⟨some 183, .pick (.t 178) (.t 182) (.c (.one (.v (.s (.bool false))))), none, false⟩,
                ⟨some 184, .mv (.t 183), none, false⟩,
                ⟨some 185, .call (.c (.one (.fn (.func 8) [] []))) [], (some (184, true)), false⟩,
                ⟨some 186, .pick (.t 184) (.t 185) (.c (.one (.v (.s (.bool false))))), none, false⟩,
                ⟨some 4, .mv (.t 186), none, false⟩] [(32, 34), (39, 40)]) (.ret)))))))))))))
def d3 : DFn := ⟨187, [.t 4], c3⟩
def c7 : DCode :=
 .seq (.region [⟨some 1, .box 24 (.t 0), none, false⟩,
    ⟨some 2, .mv (.c (.one (.v (.s (.bool false))))), none, false⟩] []) (.seq (.region [⟨some 3, .alloc 3 [.v (.s (.int .i64 0))], none, false⟩,
     ⟨none, .store 1 (.t 3) (.c (.one (.v (.s (.int .i64 2000))))), none, false⟩] []) (.seq (.region [⟨some 4, .load (some 2) (.t 1), none, false⟩,
      ⟨some 5, .call (.c (.one (.fn (.func 36) [] []))) [(.t 4), (.t 3), (.c (.one (.v (.s (.int .i64 30)))))], none, false⟩,
      ⟨some 2, .mv (.t 5), none, false⟩] []) (.ret)))
def d7 : DFn := ⟨6, [.t 2], c7⟩
def c8 : DCode :=
 .seq (.region [⟨some 0, .mv (.c (.one (.v (.s (.bool false))))), none, false⟩] []) (.seq (.region [⟨some 10, .call (.c (.one (.fn (.func 37) [] []))) [(.c (.one (.v (.s (.string ⟨#[112, 97, 105, 114, 40, 105, 110, 116, 44, 108, 105, 115, 116, 40, 116, 101, 120, 116, 41, 41]⟩)))))], none, false⟩,
     ⟨some 9, .mv (.t 10), none, false⟩,
     ⟨some 11, .extract (.t 9) 0, none, false⟩,
     ⟨some 12, .extract (.t 9) 1, none, false⟩,
     ⟨some 13, .extract (.t 9) 2, none, false⟩,
     ⟨some 1, .alloc 24 [.v (.s (.int .i64 0)), .esl], none, false⟩,
     ⟨none, .store 2 (.t 1) (.t 11), none, false⟩,
     ⟨some 2, .mv (.t 12), none, false⟩,
     ⟨some 3, .mv (.t 13), none, false⟩] []) (.seq (.region [⟨some 15, .load (some 2) (.t 1), none, false⟩,
      ⟨some 16, .call (.c (.one (.fn (.func 11) [] []))) [(.t 15)], none, false⟩,
      ⟨some 14, .mv (.t 16), none, false⟩,
      ⟨some 17, .extract (.t 14) 0, none, false⟩,
      ⟨some 18, .extract (.t 14) 1, none, false⟩,
      ⟨some 4, .mv (.t 17), none, false⟩,
      ⟨some 5, .mv (.t 18), none, false⟩] []) (.seq (.region [⟨some 20, .call (.c (.one (.fn (.func 37) [] []))) [(.c (.one (.v (.s (.string ⟨#[108, 105, 115, 116, 40, 105, 109, 116, 41]⟩)))))], none, false⟩,
       ⟨some 19, .mv (.t 20), none, false⟩,
       ⟨some 21, .extract (.t 19) 0, none, false⟩,
       ⟨some 22, .extract (.t 19) 1, none, false⟩,
       ⟨some 23, .extract (.t 19) 2, none, false⟩,
       ⟨some 6, .alloc 24 [.v (.s (.int .i64 0)), .esl], none, false⟩,
       ⟨none, .store 2 (.t 6) (.t 21), none, false⟩,
       ⟨some 7, .mv (.t 22), none, false⟩,
       ⟨some 8, .mv (.t 23), none, false⟩] []) (.seq (.region [⟨some 24, .mv (.t 3), none, false⟩,
        ⟨some 25, .bin .eql (.t 24) (.c (.one (.v (.s (.int .i64 0))))), none, false⟩,
        ⟨some 26, .mv (.t 25), none, false⟩,
        ⟨some 27, .mv (.t 5), (some (26, true)), false⟩,
        ⟨some 28, .bin .eql (.t 27) (.c (.one (.v (.s (.int .i64 0))))), (some (26, true)), false⟩,
        ⟨some 29, .pick (.t 26) (.t 28) (.c (.one (.v (.s (.bool false))))), none, false⟩,
        ⟨some 30, .mv (.t 29), none, false⟩,
        ⟨some 31, .mv (.t 2), (some (30, true)), false⟩,
        ⟨some 32, .bin .eql (.t 31) (.c (.one (.v (.s (.int .i64 0))))), (some (30, true)), false⟩,
        ⟨some 33, .pick (.t 30) (.t 32) (.c (.one (.v (.s (.bool false))))), none, false⟩,
        ⟨some 34, .mv (.t 33), none, false⟩,
        ⟨some 35, .mv (.t 4), (some (34, true)), false⟩,
        ⟨some 36, .bin .eql (.t 35) (.c (.one (.v (.s (.string ⟨#[112, 97, 105, 114, 40, 105, 110, 116, 44, 108, 105, 115, 116, 40, 116, 101, 120, 116, 41, 41]⟩))))), (some (34, true)), false⟩,
        ⟨some 37, .pick (.t 34) (.t 36) (.c (.one (.v (.s (.bool false))))), none, false⟩,
        ⟨some 38, .mv (.t 37), none, false⟩,
        ⟨some 39, .mv (.t 7), (some (38, true)), false⟩,
        ⟨some 40, .bin .eql (.t 39) (.c (.one (.v (.s (.int .i64 6))))), (some (38, true)), false⟩,
        ⟨some 41, .pick (.t 38) (.t 40) (.c (.one (.v (.s (.bool false))))), none, false⟩,
        ⟨some 42, .mv (.t 41), none, false⟩,
        ⟨some 43, .mv (.t 8), (some (42, true)), false⟩,
        ⟨some 44, .bin .eql (.t 43) (.c (.one (.v (.s (.int .i64 40))))), (some (42, true)), false⟩,
        ⟨some 45, .pick (.t 42) (.t 44) (.c (.one (.v (.s (.bool false))))), none, false⟩,
        ⟨some 0, .mv (.t 45), none, false⟩] []) (.ret)))))
def d8 : DFn := ⟨46, [.t 0], c8⟩
def c9 : DCode :=
 .seq (.region [⟨some 1, .box 24 (.t 0), none, false⟩,
    ⟨some 2, .alloc 29 [.v (.s (.int .i64 0)), .esl], none, false⟩] []) (.seq (.region [⟨some 3, .mv (.c (.one (.esl))), none, false⟩] []) (.seq (.seq (.region [⟨some 6, .faddr 1 (.t 1), none, false⟩,
       ⟨some 7, .load none (.t 6), none, false⟩,
       ⟨some 8, .len false (.t 7), none, false⟩,
       ⟨some 9, .mv (.c (.one (.v (.s (.int .i64 0))))), none, false⟩] []) (.block 0 (.loop (.seq (.region [⟨some 10, .bin .lss (.t 9) (.t 8), none, false⟩] []) (.seq (.cond (.t 10) (.skip) (.exit 0)) (.seq (.block 1 (.seq (.region [⟨some 11, .iaddr 2 (.t 7) (.t 9), none, false⟩,
              ⟨some 12, .load (some 2) (.t 11), none, false⟩,
              ⟨some 5, .alloc 24 [.v (.s (.int .i64 0)), .esl], none, false⟩,
              ⟨none, .store 2 (.t 5) (.t 12), none, false⟩] []) (.region [⟨some 13, .mv (.t 3), none, false⟩,
              ⟨some 14, .load (some 2) (.t 5), none, false⟩,
              ⟨some 15, .call (.c (.one (.fn (.func 9) [] []))) [(.t 14)], none, false⟩,
              ⟨some 16, .bsl 29 2 false [(.t 15)], none, false⟩,
              ⟨some 17, .append 29 2 32 false (.t 13) (.t 16), none, false⟩,
              ⟨some 3, .mv (.t 17), none, false⟩] []))) (.region [⟨some 18, .bin .add (.t 9) (.c (.one (.v (.s (.int .i64 1))))), none, false⟩,
            ⟨some 9, .mv (.t 18), none, false⟩] []))))))) (.seq (.region [⟨some 19, .faddr 0 (.t 1), none, false⟩,
       ⟨some 20, .load none (.t 19), none, false⟩,
       ⟨some 21, .mv (.t 3), none, false⟩,
       ⟨some 22, .build [.v (.s (.int .i64 0)), .esl] [(0, 1, (.t 20)), (1, 1, (.t 21))], none, false⟩,
       ⟨none, .store 2 (.t 2) (.t 22), none, false⟩] []) (.ret))))
def d9 : DFn := ⟨23, [.cell 2 (some 2)], c9⟩
def c10 : DCode :=
 .seq (.region [⟨some 2, .box 29 (.t 0), none, false⟩,
    ⟨some 4, .mv (.c (.one (.v (.s (.bool false))))), none, false⟩] []) (.seq (.seq (.region [⟨some 6, .mv (.t 1), none, false⟩,
      ⟨some 7, .bin .eql (.t 6) (.c (.one (.v (.s (.int .i64 0))))), none, false⟩,
      ⟨some 8, .mv (.t 7), none, false⟩,
      ⟨some 9, .faddr 0 (.t 2), (some (8, false)), false⟩,
      ⟨some 10, .load none (.t 9), (some (8, false)), false⟩,
      ⟨some 11, .call (.c (.one (.fn (.func 38) [] []))) [(.t 10)], (some (8, false)), false⟩,
      ⟨some 12, .bin .eql (.t 11) (.c (.one (.v (.s (.string ⟨#[]⟩))))), (some (8, false)), false⟩,
      ⟨some 13, .pick (.t 8) (.c (.one (.v (.s (.bool true))))) (.t 12), none, false⟩,
      ⟨some 14, .mv (.t 13), none, false⟩,
      ⟨some 15, .faddr 1 (.t 2), (some (14, false)), false⟩,
      ⟨some 16, .load none (.t 15), (some (14, false)), false⟩,
      ⟨some 17, .len false (.t 16), (some (14, false)), false⟩,
      ⟨some 18, .faddr 0 (.t 2), (some (14, false)), false⟩,
      ⟨some 19, .load none (.t 18), (some (14, false)), false⟩,
      ⟨some 20, .call (.c (.one (.fn (.func 39) [] []))) [(.t 19)], (some (14, false)), false⟩,
      ⟨some 21, .bin .neq (.t 17) (.t 20), (some (14, false)), false⟩,
      ⟨some 22, .pick (.t 14) (.c (.one (.v (.s (.bool true))))) (.t 21), none, false⟩] [(10, 14)]) (.cond (.t 22) (.seq (.region [⟨some 4, .mv (.c (.one (.v (.s (.bool false))))), none, false⟩] []) (.ret)) (.skip))) (.seq (.seq (.region [⟨some 5, .mv (.c (.one (.v (.s (.int .i64 0))))), none, false⟩] []) (.block 0 (.loop (.seq (.seq (.region [⟨some 23, .mv (.t 5), none, false⟩,
           ⟨some 24, .faddr 1 (.t 2), none, false⟩,
           ⟨some 25, .load none (.t 24), none, false⟩,
           ⟨some 26, .len false (.t 25), none, false⟩,
           ⟨some 27, .bin .lss (.t 23) (.t 26), none, false⟩] []) (.cond (.t 27) (.skip) (.exit 0))) (.seq (.block 1 (.seq (.region [⟨some 30, .faddr 1 (.t 2), none, false⟩,
             ⟨some 31, .load none (.t 30), none, false⟩,
             ⟨some 32, .mv (.t 5), none, false⟩,
             ⟨some 33, .iaddr 2 (.t 31) (.t 32), none, false⟩,
             ⟨some 34, .load (some 2) (.t 33), none, false⟩,
             ⟨some 35, .mv (.t 1), none, false⟩,
             ⟨some 36, .bin .sub (.t 35) (.c (.one (.v (.s (.int .i64 1))))), none, false⟩,
             ⟨some 37, .call (.c (.one (.fn (.func 10) [] []))) [(.t 34), (.t 36)], none, false⟩,
             ⟨some 38, .un .not (.t 37), none, false⟩] []) (.cond (.t 38) (.seq (.region [⟨some 4, .mv (.c (.one (.v (.s (.bool false))))), none, false⟩] []) (.ret)) (.skip)))) (.region [⟨some 28, .mv (.t 5), none, false⟩,
           ⟨some 29, .bin .add (.t 28) (.c (.one (.v (.s (.int .i64 1))))), none, false⟩,
           ⟨some 5, .mv (.t 29), none, false⟩] [])))))) (.seq (.region [⟨some 4, .mv (.c (.one (.v (.s (.bool true))))), none, false⟩] []) (.ret))))
def d10 : DFn := ⟨39, [.t 4], c10⟩
def c11 : DCode :=
 .seq (.region [⟨some 1, .box 24 (.t 0), none, false⟩,
    ⟨some 2, .mv (.c (.one (.v (.s (.string ⟨#[]⟩))))), none, false⟩,
    ⟨some 3, .mv (.c (.one (.v (.s (.int .i64 0))))), none, false⟩] []) (.seq (.seq (.region [⟨some 6, .load (some 2) (.t 1), none, false⟩,
      ⟨some 7, .call (.c (.one (.fn (.func 17) [] []))) [(.t 6)], none, false⟩,
      ⟨some 4, .mv (.t 7), none, false⟩] []) (.seq (.region [⟨some 8, .mv (.t 4), none, false⟩,
       ⟨some 9, .bin .neq (.t 8) (.c (.one (.v (.s (.int .i64 0))))), none, false⟩] []) (.cond (.t 9) (.seq (.region [⟨some 10, .mv (.t 4), none, false⟩,
         ⟨some 2, .mv (.c (.one (.v (.s (.string ⟨#[]⟩))))), none, false⟩,
         ⟨some 3, .mv (.t 10), none, false⟩] []) (.ret)) (.skip)))) (.seq (.region [⟨some 11, .build [.v (.s (.pointer none)), .esl] [], none, false⟩,
      ⟨some 12, .box 87 (.t 11), none, false⟩,
      ⟨some 5, .mv (.t 12), none, false⟩] []) (.seq (.region [⟨some 13, .mv (.t 5), none, false⟩,
       ⟨some 14, .load (some 2) (.t 1), none, false⟩,
       ⟨some 15, .call (.c (.one (.fn (.func 40) [] []))) [(.t 13), (.t 14)], none, false⟩] []) (.seq (.region [⟨some 16, .mv (.t 5), none, false⟩,
        ⟨some 17, .call (.c (.one (.fn (.func 41) [] []))) [(.t 16)], none, false⟩,
        ⟨some 2, .mv (.t 17), none, false⟩,
        ⟨some 3, .mv (.c (.one (.v (.s (.int .i64 0))))), none, false⟩] []) (.ret)))))
def d11 : DFn := ⟨18, [.t 2, .t 3], c11⟩
def c12 : DCode :=
 .seq (.region [⟨some 1, .box 24 (.t 0), none, false⟩,
    ⟨some 2, .mv (.c (.one (.v (.s (.int .i64 0))))), none, false⟩,
    ⟨some 3, .mv (.c (.one (.v (.s (.int .i64 0))))), none, false⟩] []) (.seq (.seq (.region [⟨some 5, .load (some 2) (.t 1), none, false⟩,
      ⟨some 6, .call (.c (.one (.fn (.func 17) [] []))) [(.t 5)], none, false⟩,
      ⟨some 4, .mv (.t 6), none, false⟩] []) (.seq (.region [⟨some 7, .mv (.t 4), none, false⟩,
       ⟨some 8, .bin .neq (.t 7) (.c (.one (.v (.s (.int .i64 0))))), none, false⟩] []) (.cond (.t 8) (.seq (.region [⟨some 9, .mv (.t 4), none, false⟩,
         ⟨some 2, .mv (.c (.one (.v (.s (.int .i64 0))))), none, false⟩,
         ⟨some 3, .mv (.t 9), none, false⟩] []) (.ret)) (.skip)))) (.seq (.region [⟨some 10, .load (some 2) (.t 1), none, false⟩,
      ⟨some 11, .call (.c (.one (.fn (.func 42) [] []))) [(.t 10)], none, false⟩,
      ⟨some 2, .mv (.t 11), none, false⟩,
      ⟨some 3, .mv (.c (.one (.v (.s (.int .i64 0))))), none, false⟩] []) (.ret)))
def d12 : DFn := ⟨12, [.t 2, .t 3], c12⟩
def c13 : DCode :=
 .seq (.region [⟨some 1, .box 24 (.t 0), none, false⟩,
    ⟨some 2, .alloc 40 [.v (.s (.int .i64 0)), .v (.s (.int .i64 0)), .v (.s (.string ⟨#[]⟩)), .v (.s (.complex .f64 0 0)), .esl], none, false⟩,
    ⟨some 3, .mv (.c (.one (.v (.s (.int .i64 0))))), none, false⟩] []) (.seq (.seq (.region [⟨some 5, .load (some 2) (.t 1), none, false⟩,
      ⟨some 6, .call (.c (.one (.fn (.func 17) [] []))) [(.t 5)], none, false⟩,
      ⟨some 4, .mv (.t 6), none, false⟩] []) (.seq (.region [⟨some 7, .mv (.t 4), none, false⟩,
       ⟨some 8, .bin .neq (.t 7) (.c (.one (.v (.s (.int .i64 0))))), none, false⟩] []) (.cond (.t 8) (.seq (.region [⟨some 9, .build [.v (.s (.int .i64 0)), .v (.s (.int .i64 0)), .v (.s (.string ⟨#[]⟩)), .v (.s (.complex .f64 0 0)), .esl] [], none, false⟩,
         ⟨some 10, .mv (.t 4), none, false⟩,
         ⟨none, .store 5 (.t 2) (.t 9), none, false⟩,
         ⟨some 3, .mv (.t 10), none, false⟩] []) (.ret)) (.skip)))) (.seq (.region [⟨some 11, .load (some 2) (.t 1), none, false⟩,
      ⟨some 12, .call (.c (.one (.fn (.func 43) [] []))) [(.t 11)], none, false⟩,
      ⟨none, .store 5 (.t 2) (.t 12), none, false⟩,
      ⟨some 3, .mv (.c (.one (.v (.s (.int .i64 0))))), none, false⟩] []) (.ret)))
def d13 : DFn := ⟨13, [.cell 2 (some 5), .t 3], c13⟩
def c14 : DCode :=
 .seq (.region [⟨some 4, .alloc 24 [.v (.s (.int .i64 0)), .esl], none, false⟩,
    ⟨some 5, .mv (.c (.one (.v (.s (.int .i64 0))))), none, false⟩] []) (.seq (.region [⟨some 8, .mv (.t 0), none, false⟩,
     ⟨some 9, .mv (.t 1), none, false⟩,
     ⟨some 10, .build [.v (.s (.int .i64 0)), .esl] [(0, 1, (.t 8)), (1, 1, (.t 9))], none, false⟩,
     ⟨some 6, .alloc 24 [.v (.s (.int .i64 0)), .esl], none, false⟩,
     ⟨none, .store 2 (.t 6) (.t 10), none, false⟩] []) (.seq (.seq (.region [⟨some 11, .load (some 2) (.t 6), none, false⟩,
       ⟨some 12, .call (.c (.one (.fn (.func 17) [] []))) [(.t 11)], none, false⟩,
       ⟨some 7, .mv (.t 12), none, false⟩] []) (.seq (.region [⟨some 13, .mv (.t 7), none, false⟩,
        ⟨some 14, .bin .neq (.t 13) (.c (.one (.v (.s (.int .i64 0))))), none, false⟩] []) (.cond (.t 14) (.seq (.region [⟨some 15, .build [.v (.s (.int .i64 0)), .esl] [], none, false⟩,
          ⟨some 16, .mv (.t 7), none, false⟩,
          ⟨none, .store 2 (.t 4) (.t 15), none, false⟩,
          ⟨some 5, .mv (.t 16), none, false⟩] []) (.ret)) (.skip)))) (.seq (.region [⟨some 17, .load (some 2) (.t 6), none, false⟩,
       ⟨some 18, .call (.c (.one (.fn (.func 44) [] []))) [(.t 17)], none, true⟩,
       ⟨none, .store 2 (.t 4) (.t 18), none, false⟩,
       ⟨some 5, .mv (.c (.one (.v (.s (.int .i64 0))))), none, false⟩] []) (.ret))))
def d14 : DFn := ⟨19, [.cell 4 (some 2), .t 5], c14⟩
def c15 : DCode :=
 .seq (.region [⟨some 2, .box 24 (.t 0), none, false⟩,
    ⟨some 3, .box 24 (.t 1), none, false⟩,
    ⟨some 4, .mv (.c (.one (.v (.s (.bool false))))), none, false⟩] []) (.seq (.region [⟨some 5, .load (some 2) (.t 2), none, false⟩,
     ⟨some 6, .call (.c (.one (.fn (.func 17) [] []))) [(.t 5)], none, false⟩,
     ⟨some 7, .bin .eql (.t 6) (.c (.one (.v (.s (.int .i64 0))))), none, false⟩,
     ⟨some 8, .mv (.t 7), none, false⟩,
     ⟨some 9, .load (some 2) (.t 3), (some (8, true)), false⟩,
     ⟨some 10, .call (.c (.one (.fn (.func 17) [] []))) [(.t 9)], (some (8, true)), false⟩,
     ⟨some 11, .bin .eql (.t 10) (.c (.one (.v (.s (.int .i64 0))))), (some (8, true)), false⟩,
     ⟨some 12, .pick (.t 8) (.t 11) (.c (.one (.v (.s (.bool false))))), none, false⟩,
     ⟨some 13, .mv (.t 12), none, false⟩,
     ⟨some 14, .load (some 2) (.t 2), (some (13, true)), false⟩,
     ⟨some 15, .load (some 2) (.t 3), (some (13, true)), false⟩,
     ⟨some 16, .call (.c (.one (.fn (.func 45) [] []))) [(.t 14), (.t 15)], (some (13, true)), false⟩,
     ⟨some 17, .pick (.t 13) (.t 16) (.c (.one (.v (.s (.bool false))))), none, false⟩,
     ⟨some 4, .mv (.t 17), none, false⟩] []) (.ret))
def d15 : DFn := ⟨18, [.t 4], c15⟩
def c16 : DCode :=
 .seq (.region [⟨some 2, .box 29 (.t 0), none, false⟩,
    ⟨some 3, .box 29 (.t 1), none, false⟩,
    ⟨some 4, .mv (.c (.one (.v (.s (.bool false))))), none, false⟩] []) (.seq (.seq (.region [⟨some 6, .faddr 0 (.t 2), none, false⟩,
      ⟨some 7, .load none (.t 6), none, false⟩,
      ⟨some 8, .faddr 0 (.t 3), none, false⟩,
      ⟨some 9, .load none (.t 8), none, false⟩,
      ⟨some 10, .bin .neq (.t 7) (.t 9), none, false⟩,
      ⟨some 11, .mv (.t 10), none, false⟩,
      ⟨some 12, .faddr 1 (.t 2), (some (11, false)), false⟩,
      ⟨some 13, .load none (.t 12), (some (11, false)), false⟩,
      ⟨some 14, .len false (.t 13), (some (11, false)), false⟩,
      ⟨some 15, .faddr 1 (.t 3), (some (11, false)), false⟩,
      ⟨some 16, .load none (.t 15), (some (11, false)), false⟩,
      ⟨some 17, .len false (.t 16), (some (11, false)), false⟩,
      ⟨some 18, .bin .neq (.t 14) (.t 17), (some (11, false)), false⟩,
      ⟨some 19, .pick (.t 11) (.c (.one (.v (.s (.bool true))))) (.t 18), none, false⟩] []) (.cond (.t 19) (.seq (.region [⟨some 4, .mv (.c (.one (.v (.s (.bool false))))), none, false⟩] []) (.ret)) (.skip))) (.seq (.seq (.region [⟨some 5, .mv (.c (.one (.v (.s (.int .i64 0))))), none, false⟩] []) (.block 0 (.loop (.seq (.seq (.region [⟨some 20, .mv (.t 5), none, false⟩,
           ⟨some 21, .faddr 1 (.t 2), none, false⟩,
           ⟨some 22, .load none (.t 21), none, false⟩,
           ⟨some 23, .len false (.t 22), none, false⟩,
           ⟨some 24, .bin .lss (.t 20) (.t 23), none, false⟩] []) (.cond (.t 24) (.skip) (.exit 0))) (.seq (.block 1 (.seq (.region [⟨some 27, .faddr 1 (.t 2), none, false⟩,
             ⟨some 28, .load none (.t 27), none, false⟩,
             ⟨some 29, .mv (.t 5), none, false⟩,
             ⟨some 30, .iaddr 2 (.t 28) (.t 29), none, false⟩,
             ⟨some 31, .load (some 2) (.t 30), none, false⟩,
             ⟨some 32, .faddr 1 (.t 3), none, false⟩,
             ⟨some 33, .load none (.t 32), none, false⟩,
             ⟨some 34, .mv (.t 5), none, false⟩,
             ⟨some 35, .iaddr 2 (.t 33) (.t 34), none, false⟩,
             ⟨some 36, .load (some 2) (.t 35), none, false⟩,
             ⟨some 37, .call (.c (.one (.fn (.func 16) [] []))) [(.t 31), (.t 36)], none, false⟩,
             ⟨some 38, .un .not (.t 37), none, false⟩] []) (.cond (.t 38) (.seq (.region [⟨some 4, .mv (.c (.one (.v (.s (.bool false))))), none, false⟩] []) (.ret)) (.skip)))) (.region [⟨some 25, .mv (.t 5), none, false⟩,
           ⟨some 26, .bin .add (.t 25) (.c (.one (.v (.s (.int .i64 1))))), none, false⟩,
           ⟨some 5, .mv (.t 26), none, false⟩] [])))))) (.seq (.region [⟨some 4, .mv (.c (.one (.v (.s (.bool true))))), none, false⟩] []) (.ret))))
def d16 : DFn := ⟨39, [.t 4], c16⟩
def c17 : DCode :=
 .seq (.region [⟨some 1, .box 24 (.t 0), none, false⟩,
    ⟨some 2, .mv (.c (.one (.v (.s (.int .i64 0))))), none, false⟩] []) (.seq (.seq (.region [⟨some 3, .load (some 2) (.t 1), none, false⟩,
      ⟨some 4, .call (.c (.one (.fn (.func 46) [] []))) [(.t 3), (.c (.one (.v (.s (.int .i64 6)))))], none, false⟩,
      ⟨some 5, .un .not (.t 4), none, false⟩] []) (.cond (.t 5) (.seq (.region [⟨some 2, .mv (.c (.one (.v (.s (.int .i64 20))))), none, false⟩] []) (.ret)) (.skip))) (.seq (.region [⟨some 2, .mv (.c (.one (.v (.s (.int .i64 0))))), none, false⟩] []) (.ret)))
def d17 : DFn := ⟨6, [.t 2], c17⟩
def c18 : DCode :=
 .seq (.region [⟨some 1, .box 29 (.t 0), none, false⟩,
    ⟨some 2, .mv (.c (.one (.v (.s (.string ⟨#[]⟩))))), none, false⟩] []) (.seq (.region [⟨some 5, .faddr 0 (.t 1), none, false⟩,
     ⟨some 6, .load none (.t 5), none, false⟩,
     ⟨some 7, .call (.c (.one (.fn (.func 38) [] []))) [(.t 6)], none, false⟩,
     ⟨some 3, .mv (.t 7), none, false⟩] []) (.seq (.seq (.region [⟨some 8, .faddr 1 (.t 1), none, false⟩,
       ⟨some 9, .load none (.t 8), none, false⟩,
       ⟨some 10, .len false (.t 9), none, false⟩,
       ⟨some 11, .bin .eql (.t 10) (.c (.one (.v (.s (.int .i64 0))))), none, false⟩] []) (.cond (.t 11) (.seq (.region [⟨some 12, .mv (.t 3), none, false⟩,
         ⟨some 2, .mv (.t 12), none, false⟩] []) (.ret)) (.skip))) (.seq (.region [⟨some 13, .mv (.t 3), none, false⟩,
       ⟨some 14, .bin .add (.t 13) (.c (.one (.v (.s (.string ⟨#[40]⟩))))), none, false⟩,
       ⟨some 3, .mv (.t 14), none, false⟩] []) (.seq (.seq (.region [⟨some 4, .mv (.c (.one (.v (.s (.int .i64 0))))), none, false⟩] []) (.block 0 (.loop (.seq (.seq (.region [⟨some 15, .mv (.t 4), none, false⟩,
             ⟨some 16, .faddr 1 (.t 1), none, false⟩,
             ⟨some 17, .load none (.t 16), none, false⟩,
             ⟨some 18, .len false (.t 17), none, false⟩,
             ⟨some 19, .bin .lss (.t 15) (.t 18), none, false⟩] []) (.cond (.t 19) (.skip) (.exit 0))) (.seq (.block 1 (.seq (.seq (.region [⟨some 22, .mv (.t 4), none, false⟩,
                ⟨some 23, .bin .gtr (.t 22) (.c (.one (.v (.s (.int .i64 0))))), none, false⟩] []) (.cond (.t 23) (.region [⟨some 24, .mv (.t 3), none, false⟩,
                 ⟨some 25, .bin .add (.t 24) (.c (.one (.v (.s (.string ⟨#[44]⟩))))), none, false⟩,
                 ⟨some 3, .mv (.t 25), none, false⟩] []) (.skip))) (.region [⟨some 26, .mv (.t 3), none, false⟩,
               ⟨some 27, .faddr 1 (.t 1), none, false⟩,
               ⟨some 28, .load none (.t 27), none, false⟩,
               ⟨some 29, .mv (.t 4), none, false⟩,
               ⟨some 30, .iaddr 2 (.t 28) (.t 29), none, false⟩,
               ⟨some 31, .load (some 2) (.t 30), none, false⟩,
               ⟨some 32, .call (.c (.one (.fn (.func 18) [] []))) [(.t 31)], none, false⟩,
               ⟨some 33, .bin .add (.t 26) (.t 32), none, false⟩,
               ⟨some 3, .mv (.t 33), none, false⟩] []))) (.region [⟨some 20, .mv (.t 4), none, false⟩,
             ⟨some 21, .bin .add (.t 20) (.c (.one (.v (.s (.int .i64 1))))), none, false⟩,
             ⟨some 4, .mv (.t 21), none, false⟩] [])))))) (.seq (.region [⟨some 34, .mv (.t 3), none, false⟩,
         ⟨some 35, .bin .add (.t 34) (.c (.one (.v (.s (.string ⟨#[41]⟩))))), none, false⟩,
         ⟨some 2, .mv (.t 35), none, false⟩] []) (.ret))))))
def d18 : DFn := ⟨36, [.t 2], c18⟩
def c19 : DCode :=
 .seq (.region [⟨some 1, .box 29 (.t 0), none, false⟩,
    ⟨some 2, .mv (.c (.one (.v (.s (.int .i64 0))))), none, false⟩] []) (.seq (.region [⟨some 3, .mv (.c (.one (.v (.s (.int .i64 0))))), none, false⟩] []) (.seq (.seq (.region [⟨some 4, .mv (.c (.one (.v (.s (.int .i64 0))))), none, false⟩] []) (.block 0 (.loop (.seq (.seq (.region [⟨some 6, .mv (.t 4), none, false⟩,
           ⟨some 7, .faddr 1 (.t 1), none, false⟩,
           ⟨some 8, .load none (.t 7), none, false⟩,
           ⟨some 9, .len false (.t 8), none, false⟩,
           ⟨some 10, .bin .lss (.t 6) (.t 9), none, false⟩] []) (.cond (.t 10) (.skip) (.exit 0))) (.seq (.block 1 (.seq (.region [⟨some 13, .faddr 1 (.t 1), none, false⟩,
             ⟨some 14, .load none (.t 13), none, false⟩,
             ⟨some 15, .mv (.t 4), none, false⟩,
             ⟨some 16, .iaddr 2 (.t 14) (.t 15), none, false⟩,
             ⟨some 17, .load (some 2) (.t 16), none, false⟩,
             ⟨some 18, .call (.c (.one (.fn (.func 19) [] []))) [(.t 17)], none, false⟩,
             ⟨some 5, .mv (.t 18), none, false⟩] []) (.seq (.region [⟨some 19, .mv (.t 5), none, false⟩,
              ⟨some 20, .mv (.t 3), none, false⟩,
              ⟨some 21, .bin .gtr (.t 19) (.t 20), none, false⟩] []) (.cond (.t 21) (.region [⟨some 22, .mv (.t 5), none, false⟩,
               ⟨some 3, .mv (.t 22), none, false⟩] []) (.skip))))) (.region [⟨some 11, .mv (.t 4), none, false⟩,
           ⟨some 12, .bin .add (.t 11) (.c (.one (.v (.s (.int .i64 1))))), none, false⟩,
           ⟨some 4, .mv (.t 12), none, false⟩] [])))))) (.seq (.region [⟨some 23, .mv (.t 3), none, false⟩,
       ⟨some 24, .bin .add (.t 23) (.c (.one (.v (.s (.int .i64 1))))), none, false⟩,
       ⟨some 2, .mv (.t 24), none, false⟩] []) (.ret))))
def d19 : DFn := ⟨25, [.t 2], c19⟩
def c20 : DCode :=
 .seq (.region [⟨some 2, .box 40 (.t 0), none, false⟩,
    ⟨some 3, .box 40 (.t 1), none, false⟩,
    ⟨some 4, .mv (.c (.one (.v (.s (.bool false))))), none, false⟩] []) (.seq (.region [⟨some 5, .faddr 0 (.t 2), none, false⟩,
     ⟨some 6, .load none (.t 5), none, false⟩,
     ⟨some 7, .faddr 0 (.t 3), none, false⟩,
     ⟨some 8, .load none (.t 7), none, false⟩,
     ⟨some 9, .bin .eql (.t 6) (.t 8), none, false⟩,
     ⟨some 10, .mv (.t 9), none, false⟩,
     ⟨some 11, .load (some 5) (.t 2), (some (10, true)), false⟩,
     ⟨some 12, .load (some 5) (.t 3), (some (10, true)), false⟩,
     ⟨some 13, .call (.c (.one (.fn (.func 47) [] []))) [(.t 11), (.t 12)], (some (10, true)), false⟩,
     ⟨some 14, .bin .eql (.t 13) (.c (.one (.v (.s (.int .i64 0))))), (some (10, true)), false⟩,
     ⟨some 15, .pick (.t 10) (.t 14) (.c (.one (.v (.s (.bool false))))), none, false⟩,
     ⟨some 4, .mv (.t 15), none, false⟩] []) (.ret))
def d20 : DFn := ⟨16, [.t 4], c20⟩
def c21 : DCode :=
 .seq (.region [⟨some 1, .box 29 (.t 0), none, false⟩,
    ⟨some 2, .alloc 40 [.v (.s (.int .i64 0)), .v (.s (.int .i64 0)), .v (.s (.string ⟨#[]⟩)), .v (.s (.complex .f64 0 0)), .esl], none, false⟩] []) (.seq (.seq (.region [⟨some 3, .faddr 0 (.t 1), none, false⟩,
      ⟨some 4, .load none (.t 3), none, false⟩] []) (.block 0 (.seq (.region [⟨some 6, .bin .eql (.t 4) (.c (.one (.v (.s (.int .i64 9))))), none, false⟩,
        ⟨some 5, .mv (.t 6), none, false⟩] []) (.cond (.t 5) (.seq (.region [⟨some 7, .build [.v (.s (.int .i64 0)), .v (.s (.int .i64 0)), .v (.s (.string ⟨#[]⟩)), .v (.s (.complex .f64 0 0)), .esl] [(0, 1, (.c (.one (.v (.s (.int .i64 8))))))], none, false⟩,
          ⟨none, .store 5 (.t 2) (.t 7), none, false⟩] []) (.ret)) (.seq (.region [⟨some 9, .bin .eql (.t 4) (.c (.one (.v (.s (.int .i64 6))))), none, false⟩,
          ⟨some 8, .mv (.t 9), none, false⟩] []) (.cond (.t 8) (.seq (.region [⟨some 10, .faddr 1 (.t 1), none, false⟩,
            ⟨some 11, .load none (.t 10), none, false⟩,
            ⟨some 12, .iaddr 2 (.t 11) (.c (.one (.v (.s (.int .i64 0))))), none, false⟩,
            ⟨some 13, .load (some 2) (.t 12), none, false⟩,
            ⟨some 14, .call (.c (.one (.fn (.func 21) [] []))) [(.t 13)], none, false⟩,
            ⟨some 15, .faddr 1 (.t 1), none, false⟩,
            ⟨some 16, .load none (.t 15), none, false⟩,
            ⟨some 17, .iaddr 2 (.t 16) (.c (.one (.v (.s (.int .i64 1))))), none, false⟩,
            ⟨some 18, .load (some 2) (.t 17), none, false⟩,
            ⟨some 19, .call (.c (.one (.fn (.func 21) [] []))) [(.t 18)], none, false⟩,
            ⟨some 20, .bsl 40 5 false [(.t 14), (.t 19)], none, false⟩,
            ⟨some 21, .build [.v (.s (.int .i64 0)), .v (.s (.int .i64 0)), .v (.s (.string ⟨#[]⟩)), .v (.s (.complex .f64 0 0)), .esl] [(0, 1, (.c (.one (.v (.s (.int .i64 6)))))), (4, 1, (.t 20))], none, false⟩,
            ⟨none, .store 5 (.t 2) (.t 21), none, false⟩] [(4, 6), (4, 8)]) (.ret)) (.skip))))))) (.seq (.region [⟨some 22, .faddr 0 (.t 1), none, false⟩,
      ⟨some 23, .load none (.t 22), none, false⟩,
      ⟨some 24, .build [.v (.s (.int .i64 0)), .v (.s (.int .i64 0)), .v (.s (.string ⟨#[]⟩)), .v (.s (.complex .f64 0 0)), .esl] [(0, 1, (.t 23))], none, false⟩,
      ⟨none, .store 5 (.t 2) (.t 24), none, false⟩] []) (.ret)))
def d21 : DFn := ⟨25, [.cell 2 (some 5)], c21⟩
def c36 : DCode :=
 .seq (.region [⟨some 3, .box 24 (.t 0), none, false⟩,
    ⟨some 6, .mv (.c (.one (.v (.s (.bool false))))), none, false⟩] []) (.seq (.region [⟨some 9, .mv (.t 1), none, false⟩,
     ⟨some 10, .nilck (.t 9), none, false⟩,
     ⟨some 11, .load none (.t 10), none, false⟩,
     ⟨some 12, .bin .sub (.t 11) (.c (.one (.v (.s (.int .i64 1))))), none, false⟩,
     ⟨some 13, .nilck (.t 9), none, false⟩,
     ⟨none, .store 1 (.t 13) (.t 12), none, false⟩] []) (.seq (.seq (.region [⟨some 14, .mv (.t 1), none, false⟩,
       ⟨some 15, .nilck (.t 14), none, false⟩,
       ⟨some 16, .load none (.t 15), none, false⟩,
       ⟨some 17, .bin .lss (.t 16) (.c (.one (.v (.s (.int .i64 0))))), none, false⟩,
       ⟨some 18, .mv (.t 17), none, false⟩,
       ⟨some 19, .mv (.t 2), (some (18, false)), false⟩,
       ⟨some 20, .bin .eql (.t 19) (.c (.one (.v (.s (.int .i64 0))))), (some (18, false)), false⟩,
       ⟨some 21, .pick (.t 18) (.c (.one (.v (.s (.bool true))))) (.t 20), none, false⟩] []) (.cond (.t 21) (.seq (.region [⟨some 6, .mv (.c (.one (.v (.s (.bool false))))), none, false⟩] []) (.ret)) (.skip))) (.seq (.seq (.region [⟨some 22, .faddr 1 (.t 3), none, false⟩,
        ⟨some 23, .load none (.t 22), none, false⟩,
        ⟨some 24, .len false (.t 23), none, false⟩,
        ⟨some 25, .mv (.c (.one (.v (.s (.int .i64 0))))), none, false⟩] []) (.block 0 (.loop (.seq (.region [⟨some 26, .bin .lss (.t 25) (.t 24), none, false⟩] []) (.seq (.cond (.t 26) (.skip) (.exit 0)) (.seq (.block 1 (.seq (.region [⟨some 27, .iaddr 2 (.t 23) (.t 25), none, false⟩,
               ⟨some 28, .load (some 2) (.t 27), none, false⟩,
               ⟨some 8, .alloc 24 [.v (.s (.int .i64 0)), .esl], none, false⟩,
               ⟨none, .store 2 (.t 8) (.t 28), none, false⟩] []) (.seq (.region [⟨some 29, .load (some 2) (.t 8), none, false⟩,
                ⟨some 30, .mv (.t 1), none, false⟩,
                ⟨some 31, .mv (.t 2), none, false⟩,
                ⟨some 32, .bin .sub (.t 31) (.c (.one (.v (.s (.int .i64 1))))), none, false⟩,
                ⟨some 33, .call (.c (.one (.fn (.func 36) [] []))) [(.t 29), (.t 30), (.t 32)], none, false⟩,
                ⟨some 34, .un .not (.t 33), none, false⟩] []) (.cond (.t 34) (.seq (.region [⟨some 6, .mv (.c (.one (.v (.s (.bool false))))), none, false⟩] []) (.ret)) (.skip))))) (.region [⟨some 35, .bin .add (.t 25) (.c (.one (.v (.s (.int .i64 1))))), none, false⟩,
             ⟨some 25, .mv (.t 35), none, false⟩] []))))))) (.seq (.region [⟨some 6, .mv (.c (.one (.v (.s (.bool true))))), none, false⟩] []) (.ret)))))
def d36 : DFn := ⟨36, [.t 6], c36⟩
def c37 : DCode :=
 .seq (.region [⟨some 2, .alloc 24 [.v (.s (.int .i64 0)), .esl], none, false⟩,
    ⟨some 3, .mv (.c (.one (.v (.s (.int .i64 0))))), none, false⟩,
    ⟨some 4, .mv (.c (.one (.v (.s (.int .i64 0))))), none, false⟩] []) (.seq (.region [⟨some 7, .mv (.t 0), none, false⟩,
     ⟨some 8, .build [.v (.s (.string ⟨#[]⟩)), .v (.s (.int .i64 0))] [(0, 1, (.t 7))], none, false⟩,
     ⟨some 9, .box 118 (.t 8), none, false⟩,
     ⟨some 5, .mv (.t 9), none, false⟩] []) (.seq (.region [⟨some 11, .mv (.t 5), none, false⟩,
      ⟨some 12, .call (.c (.one (.fn (.func 66) [] []))) [(.t 11), (.c (.one (.v (.s (.int .i64 6)))))], none, false⟩,
      ⟨some 10, .mv (.t 12), none, false⟩,
      ⟨some 13, .extract (.t 10) 0, none, false⟩,
      ⟨some 14, .extract (.t 10) 1, none, false⟩,
      ⟨none, .store 2 (.t 2) (.t 13), none, false⟩,
      ⟨some 6, .mv (.t 14), none, false⟩] []) (.seq (.seq (.region [⟨some 15, .mv (.t 6), none, false⟩,
        ⟨some 16, .un .not (.t 15), none, false⟩,
        ⟨some 17, .mv (.t 16), none, false⟩,
        ⟨some 18, .mv (.t 5), (some (17, false)), false⟩,
        ⟨some 19, .nilck (.t 18), (some (17, false)), false⟩,
        ⟨some 20, .faddr 1 (.t 19), (some (17, false)), false⟩,
        ⟨some 21, .load none (.t 20), (some (17, false)), false⟩,
        ⟨some 22, .mv (.t 0), (some (17, false)), false⟩,
        ⟨some 23, .len true (.t 22), (some (17, false)), false⟩,
        ⟨some 24, .bin .lss (.t 21) (.t 23), (some (17, false)), false⟩,
        ⟨some 25, .pick (.t 17) (.c (.one (.v (.s (.bool true))))) (.t 24), none, false⟩] []) (.cond (.t 25) (.seq (.region [⟨some 26, .build [.v (.s (.int .i64 0)), .esl] [], none, false⟩,
          ⟨some 27, .mv (.t 5), none, false⟩,
          ⟨some 28, .nilck (.t 27), none, false⟩,
          ⟨some 29, .faddr 1 (.t 28), none, false⟩,
          ⟨some 30, .load none (.t 29), none, false⟩,
          ⟨none, .store 2 (.t 2) (.t 26), none, false⟩,
          ⟨some 3, .mv (.t 30), none, false⟩,
          ⟨some 4, .mv (.c (.one (.v (.s (.int .i64 40))))), none, false⟩] [(4, 5)]) (.ret)) (.skip))) (.seq (.region [⟨some 31, .load (some 2) (.t 2), none, false⟩,
        ⟨none, .store 2 (.t 2) (.t 31), none, false⟩,
        ⟨some 3, .mv (.c (.one (.v (.s (.int .i64 0))))), none, false⟩,
        ⟨some 4, .mv (.c (.one (.v (.s (.int .i64 0))))), none, false⟩] []) (.ret)))))
def d37 : DFn := ⟨32, [.cell 2 (some 2), .t 3, .t 4], c37⟩
def c38 : DCode :=
 .seq (.region [⟨some 2, .mv (.c (.one (.v (.s (.string ⟨#[]⟩))))), none, false⟩] []) (.seq (.seq (.region [⟨some 3, .mv (.t 0), none, false⟩] []) (.block 0 (.seq (.region [⟨some 5, .bin .eql (.t 3) (.c (.one (.v (.s (.int .i64 1))))), none, false⟩,
        ⟨some 4, .mv (.t 5), none, false⟩] []) (.cond (.t 4) (.seq (.region [⟨some 2, .mv (.c (.one (.v (.s (.string ⟨#[98, 111, 111, 108]⟩))))), none, false⟩] []) (.ret)) (.seq (.region [⟨some 7, .bin .eql (.t 3) (.c (.one (.v (.s (.int .i64 2))))), none, false⟩,
          ⟨some 6, .mv (.t 7), none, false⟩] []) (.cond (.t 6) (.seq (.region [⟨some 2, .mv (.c (.one (.v (.s (.string ⟨#[105, 110, 116]⟩))))), none, false⟩] []) (.ret)) (.seq (.region [⟨some 9, .bin .eql (.t 3) (.c (.one (.v (.s (.int .i64 3))))), none, false⟩,
            ⟨some 8, .mv (.t 9), none, false⟩] []) (.cond (.t 8) (.seq (.region [⟨some 2, .mv (.c (.one (.v (.s (.string ⟨#[116, 101, 120, 116]⟩))))), none, false⟩] []) (.ret)) (.seq (.region [⟨some 11, .bin .eql (.t 3) (.c (.one (.v (.s (.int .i64 4))))), none, false⟩,
              ⟨some 10, .mv (.t 11), none, false⟩] []) (.cond (.t 10) (.seq (.region [⟨some 2, .mv (.c (.one (.v (.s (.string ⟨#[98, 121, 116, 101, 115]⟩))))), none, false⟩] []) (.ret)) (.seq (.region [⟨some 13, .bin .eql (.t 3) (.c (.one (.v (.s (.int .i64 5))))), none, false⟩,
                ⟨some 12, .mv (.t 13), none, false⟩] []) (.cond (.t 12) (.seq (.region [⟨some 2, .mv (.c (.one (.v (.s (.string ⟨#[112, 111, 105, 110, 116]⟩))))), none, false⟩] []) (.ret)) (.seq (.region [⟨some 15, .bin .eql (.t 3) (.c (.one (.v (.s (.int .i64 6))))), none, false⟩,
                  ⟨some 14, .mv (.t 15), none, false⟩] []) (.cond (.t 14) (.seq (.region [⟨some 2, .mv (.c (.one (.v (.s (.string ⟨#[112, 97, 105, 114]⟩))))), none, false⟩] []) (.ret)) (.seq (.region [⟨some 17, .bin .eql (.t 3) (.c (.one (.v (.s (.int .i64 7))))), none, false⟩,
                    ⟨some 16, .mv (.t 17), none, false⟩] []) (.cond (.t 16) (.seq (.region [⟨some 2, .mv (.c (.one (.v (.s (.string ⟨#[108, 105, 115, 116]⟩))))), none, false⟩] []) (.ret)) (.seq (.region [⟨some 19, .bin .eql (.t 3) (.c (.one (.v (.s (.int .i64 9))))), none, false⟩,
                      ⟨some 18, .mv (.t 19), none, false⟩] []) (.cond (.t 18) (.seq (.region [⟨some 2, .mv (.c (.one (.v (.s (.string ⟨#[111, 112, 116, 105, 111, 110]⟩))))), none, false⟩] []) (.ret)) (.skip))))))))))))))))))) (.seq (.region [⟨some 2, .mv (.c (.one (.v (.s (.string ⟨#[]⟩))))), none, false⟩] []) (.ret)))
def d38 : DFn := ⟨20, [.t 2], c38⟩
def c39 : DCode :=
 .seq (.region [⟨some 2, .mv (.c (.one (.v (.s (.int .i64 0))))), none, false⟩] []) (.seq (.seq (.region [⟨some 3, .mv (.t 0), none, false⟩,
      ⟨some 4, .bin .eql (.t 3) (.c (.one (.v (.s (.int .i64 6))))), none, false⟩] []) (.cond (.t 4) (.seq (.region [⟨some 2, .mv (.c (.one (.v (.s (.int .i64 2))))), none, false⟩] []) (.ret)) (.skip))) (.seq (.seq (.region [⟨some 5, .mv (.t 0), none, false⟩,
       ⟨some 6, .bin .eql (.t 5) (.c (.one (.v (.s (.int .i64 7))))), none, false⟩,
       ⟨some 7, .mv (.t 6), none, false⟩,
       ⟨some 8, .mv (.t 0), (some (7, false)), false⟩,
       ⟨some 9, .bin .eql (.t 8) (.c (.one (.v (.s (.int .i64 9))))), (some (7, false)), false⟩,
       ⟨some 10, .pick (.t 7) (.c (.one (.v (.s (.bool true))))) (.t 9), none, false⟩] []) (.cond (.t 10) (.seq (.region [⟨some 2, .mv (.c (.one (.v (.s (.int .i64 1))))), none, false⟩] []) (.ret)) (.skip))) (.seq (.region [⟨some 2, .mv (.c (.one (.v (.s (.int .i64 0))))), none, false⟩] []) (.ret))))
def d39 : DFn := ⟨11, [.t 2], c39⟩
def c40 : DCode :=
 .seq (.region [⟨some 3, .box 24 (.t 1), none, false⟩] []) (.seq (.seq (.region [⟨some 8, .call (.c (.one (.fn (.func 67) [] []))) [], none, false⟩,
      ⟨some 9, .len false (.t 8), none, false⟩,
      ⟨some 10, .mv (.c (.one (.v (.s (.int .i64 0))))), none, false⟩] []) (.block 0 (.loop (.seq (.region [⟨some 11, .bin .lss (.t 10) (.t 9), none, false⟩] []) (.seq (.cond (.t 11) (.skip) (.exit 0)) (.seq (.block 1 (.seq (.region [⟨some 12, .iaddr 3 (.t 8) (.t 10), none, false⟩,
             ⟨some 13, .load (some 3) (.t 12), none, false⟩,
             ⟨some 5, .alloc 124 [.v (.s (.int .i64 0)), .v (.s (.string ⟨#[]⟩)), .v (.s (.int .i64 0))], none, false⟩,
             ⟨none, .store 3 (.t 5) (.t 13), none, false⟩] []) (.seq (.region [⟨some 14, .faddr 0 (.t 5), none, false⟩,
              ⟨some 15, .load none (.t 14), none, false⟩,
              ⟨some 16, .faddr 0 (.t 3), none, false⟩,
              ⟨some 17, .load none (.t 16), none, false⟩,
              ⟨some 18, .bin .eql (.t 15) (.t 17), none, false⟩] []) (.cond (.t 18) (.region [⟨some 19, .mv (.t 0), none, false⟩,
               ⟨some 20, .faddr 1 (.t 5), none, false⟩,
               ⟨some 21, .load none (.t 20), none, false⟩,
               ⟨some 22, .call (.c (.one (.fn (.func 68) [] []))) [(.t 19), (.t 21)], none, false⟩] []) (.skip))))) (.region [⟨some 23, .bin .add (.t 10) (.c (.one (.v (.s (.int .i64 1))))), none, false⟩,
           ⟨some 10, .mv (.t 23), none, false⟩] []))))))) (.seq (.seq (.region [⟨some 24, .faddr 1 (.t 3), none, false⟩,
       ⟨some 25, .load none (.t 24), none, false⟩,
       ⟨some 26, .len false (.t 25), none, false⟩,
       ⟨some 27, .mv (.c (.one (.v (.s (.int .i64 0))))), none, false⟩] []) (.block 2 (.loop (.seq (.region [⟨some 28, .bin .lss (.t 27) (.t 26), none, false⟩] []) (.seq (.cond (.t 28) (.skip) (.exit 2)) (.seq (.block 3 (.seq (.region [⟨some 29, .mv (.t 27), none, false⟩,
              ⟨some 30, .iaddr 2 (.t 25) (.t 27), none, false⟩,
              ⟨some 31, .load (some 2) (.t 30), none, false⟩,
              ⟨some 7, .alloc 24 [.v (.s (.int .i64 0)), .esl], none, false⟩,
              ⟨some 6, .mv (.t 29), none, false⟩,
              ⟨none, .store 2 (.t 7) (.t 31), none, false⟩] []) (.seq (.region [⟨some 32, .mv (.t 0), none, false⟩,
               ⟨some 33, .mv (.t 6), none, false⟩,
               ⟨some 34, .index (.c (.one (.v (.s (.string ⟨#[40, 44]⟩))))) (.t 33), none, false⟩,
               ⟨some 35, .call (.c (.one (.fn (.func 69) [] []))) [(.t 32), (.t 34)], none, false⟩] []) (.region [⟨some 36, .mv (.t 0), none, false⟩,
               ⟨some 37, .load (some 2) (.t 7), none, false⟩,
               ⟨some 38, .call (.c (.one (.fn (.func 40) [] []))) [(.t 36), (.t 37)], none, false⟩] [])))) (.region [⟨some 39, .bin .add (.t 27) (.c (.one (.v (.s (.int .i64 1))))), none, false⟩,
            ⟨some 27, .mv (.t 39), none, false⟩] []))))))) (.seq (.region [⟨some 40, .faddr 1 (.t 3), none, false⟩,
       ⟨some 41, .load none (.t 40), none, false⟩,
       ⟨some 42, .len false (.t 41), none, false⟩,
       ⟨some 43, .bin .gtr (.t 42) (.c (.one (.v (.s (.int .i64 0))))), none, false⟩] []) (.cond (.t 43) (.region [⟨some 44, .mv (.t 0), none, false⟩,
        ⟨some 45, .call (.c (.one (.fn (.func 69) [] []))) [(.t 44), (.c (.one (.v (.s (.int .u8 41)))))], none, false⟩] []) (.skip)))))
def d40 : DFn := ⟨46, [], c40⟩
def c41 : DCode :=
 .seq (.region [⟨some 2, .mv (.c (.one (.v (.s (.string ⟨#[]⟩))))), none, false⟩] []) (.seq (.region [⟨some 3, .mv (.t 0), none, false⟩,
     ⟨some 4, .nilck (.t 3), none, false⟩,
     ⟨some 5, .faddr 1 (.t 4), none, false⟩,
     ⟨some 6, .load none (.t 5), none, false⟩,
     ⟨some 7, .sdata (.t 6), none, false⟩,
     ⟨some 8, .mv (.t 0), none, false⟩,
     ⟨some 9, .nilck (.t 8), none, false⟩,
     ⟨some 10, .faddr 1 (.t 9), none, false⟩,
     ⟨some 11, .load none (.t 10), none, false⟩,
     ⟨some 12, .len false (.t 11), none, false⟩,
     ⟨some 13, .ustr 5 (.t 7) (.t 12), none, false⟩,
     ⟨some 2, .mv (.t 13), none, false⟩] []) (.ret))
def d41 : DFn := ⟨14, [.t 2], c41⟩
def c42 : DCode :=
 .seq (.region [⟨some 1, .box 24 (.t 0), none, false⟩,
    ⟨some 2, .mv (.c (.one (.v (.s (.int .i64 0))))), none, false⟩] []) (.seq (.region [⟨some 3, .mv (.c (.one (.v (.s (.int .i64 0))))), none, false⟩] []) (.seq (.seq (.region [⟨some 6, .faddr 1 (.t 1), none, false⟩,
       ⟨some 7, .load none (.t 6), none, false⟩,
       ⟨some 8, .len false (.t 7), none, false⟩,
       ⟨some 9, .mv (.c (.one (.v (.s (.int .i64 0))))), none, false⟩] []) (.block 0 (.loop (.seq (.region [⟨some 10, .bin .lss (.t 9) (.t 8), none, false⟩] []) (.seq (.cond (.t 10) (.skip) (.exit 0)) (.seq (.block 1 (.seq (.region [⟨some 11, .iaddr 2 (.t 7) (.t 9), none, false⟩,
              ⟨some 12, .load (some 2) (.t 11), none, false⟩,
              ⟨some 5, .alloc 24 [.v (.s (.int .i64 0)), .esl], none, false⟩,
              ⟨none, .store 2 (.t 5) (.t 12), none, false⟩] []) (.region [⟨some 13, .mv (.t 3), none, false⟩,
              ⟨some 14, .load (some 2) (.t 5), none, false⟩,
              ⟨some 15, .call (.c (.one (.fn (.func 42) [] []))) [(.t 14)], none, false⟩,
              ⟨some 16, .pureBi .max [(.t 13), (.t 15)], none, false⟩,
              ⟨some 3, .mv (.t 16), none, false⟩] []))) (.region [⟨some 17, .bin .add (.t 9) (.c (.one (.v (.s (.int .i64 1))))), none, false⟩,
            ⟨some 9, .mv (.t 17), none, false⟩] []))))))) (.seq (.region [⟨some 18, .mv (.t 3), none, false⟩,
       ⟨some 19, .bin .add (.t 18) (.c (.one (.v (.s (.int .i64 1))))), none, false⟩,
       ⟨some 2, .mv (.t 19), none, false⟩] []) (.ret))))
def d42 : DFn := ⟨20, [.t 2], c42⟩
def c43 : DCode :=
 .seq (.region [⟨some 1, .box 24 (.t 0), none, false⟩,
    ⟨some 2, .alloc 40 [.v (.s (.int .i64 0)), .v (.s (.int .i64 0)), .v (.s (.string ⟨#[]⟩)), .v (.s (.complex .f64 0 0)), .esl], none, false⟩] []) (.seq (.seq (.region [⟨some 3, .faddr 0 (.t 1), none, false⟩,
      ⟨some 4, .load none (.t 3), none, false⟩] []) (.block 0 (.seq (.region [⟨some 6, .bin .eql (.t 4) (.c (.one (.v (.s (.int .i64 9))))), none, false⟩,
        ⟨some 5, .mv (.t 6), none, false⟩] []) (.cond (.t 5) (.seq (.region [⟨some 7, .build [.v (.s (.int .i64 0)), .v (.s (.int .i64 0)), .v (.s (.string ⟨#[]⟩)), .v (.s (.complex .f64 0 0)), .esl] [(0, 1, (.c (.one (.v (.s (.int .i64 8))))))], none, false⟩,
          ⟨none, .store 5 (.t 2) (.t 7), none, false⟩] []) (.ret)) (.seq (.region [⟨some 9, .bin .eql (.t 4) (.c (.one (.v (.s (.int .i64 6))))), none, false⟩,
          ⟨some 8, .mv (.t 9), none, false⟩] []) (.cond (.t 8) (.seq (.region [⟨some 10, .faddr 1 (.t 1), none, false⟩,
            ⟨some 11, .load none (.t 10), none, false⟩,
            ⟨some 12, .iaddr 2 (.t 11) (.c (.one (.v (.s (.int .i64 0))))), none, false⟩,
            ⟨some 13, .load (some 2) (.t 12), none, false⟩,
            ⟨some 14, .call (.c (.one (.fn (.func 43) [] []))) [(.t 13)], none, false⟩,
            ⟨some 15, .faddr 1 (.t 1), none, false⟩,
            ⟨some 16, .load none (.t 15), none, false⟩,
            ⟨some 17, .iaddr 2 (.t 16) (.c (.one (.v (.s (.int .i64 1))))), none, false⟩,
            ⟨some 18, .load (some 2) (.t 17), none, false⟩,
            ⟨some 19, .call (.c (.one (.fn (.func 43) [] []))) [(.t 18)], none, false⟩,
            ⟨some 20, .bsl 40 5 false [(.t 14), (.t 19)], none, false⟩,
            ⟨some 21, .build [.v (.s (.int .i64 0)), .v (.s (.int .i64 0)), .v (.s (.string ⟨#[]⟩)), .v (.s (.complex .f64 0 0)), .esl] [(0, 1, (.c (.one (.v (.s (.int .i64 6)))))), (4, 1, (.t 20))], none, false⟩,
            ⟨none, .store 5 (.t 2) (.t 21), none, false⟩] [(4, 6), (4, 8)]) (.ret)) (.skip))))))) (.seq (.region [⟨some 22, .faddr 0 (.t 1), none, false⟩,
      ⟨some 23, .load none (.t 22), none, false⟩,
      ⟨some 24, .build [.v (.s (.int .i64 0)), .v (.s (.int .i64 0)), .v (.s (.string ⟨#[]⟩)), .v (.s (.complex .f64 0 0)), .esl] [(0, 1, (.t 23))], none, false⟩,
      ⟨none, .store 5 (.t 2) (.t 24), none, false⟩] []) (.ret)))
def d43 : DFn := ⟨25, [.cell 2 (some 5)], c43⟩
def c44 : DCode :=
 .seq (.region [⟨some 1, .box 24 (.t 0), none, false⟩,
    ⟨some 2, .alloc 24 [.v (.s (.int .i64 0)), .esl], none, false⟩] []) (.seq (.region [⟨some 3, .mv (.c (.one (.esl))), none, false⟩] []) (.seq (.seq (.region [⟨some 6, .faddr 1 (.t 1), none, false⟩,
       ⟨some 7, .load none (.t 6), none, false⟩,
       ⟨some 8, .len false (.t 7), none, false⟩,
       ⟨some 9, .mv (.c (.one (.v (.s (.int .i64 0))))), none, false⟩] []) (.block 0 (.loop (.seq (.region [⟨some 10, .bin .lss (.t 9) (.t 8), none, false⟩] []) (.seq (.cond (.t 10) (.skip) (.exit 0)) (.seq (.block 1 (.seq (.region [⟨some 11, .iaddr 2 (.t 7) (.t 9), none, false⟩,
              ⟨some 12, .load (some 2) (.t 11), none, false⟩,
              ⟨some 5, .alloc 24 [.v (.s (.int .i64 0)), .esl], none, false⟩,
              ⟨none, .store 2 (.t 5) (.t 12), none, false⟩] []) (.region [⟨some 13, .mv (.t 3), none, false⟩,
              ⟨some 14, .load (some 2) (.t 5), none, false⟩,
              ⟨some 15, .call (.c (.one (.fn (.func 44) [] []))) [(.t 14)], none, false⟩,
              ⟨some 16, .bsl 24 2 false [(.t 15)], none, false⟩,
              ⟨some 17, .append 24 2 32 true (.t 13) (.t 16), none, false⟩,
              ⟨some 3, .mv (.t 17), none, false⟩] []))) (.region [⟨some 18, .bin .add (.t 9) (.c (.one (.v (.s (.int .i64 1))))), none, false⟩,
            ⟨some 9, .mv (.t 18), none, false⟩] []))))))) (.seq (.region [⟨some 19, .faddr 0 (.t 1), none, false⟩,
       ⟨some 20, .load none (.t 19), none, false⟩,
       ⟨some 21, .mv (.t 3), none, false⟩,
       ⟨some 22, .build [.v (.s (.int .i64 0)), .esl] [(0, 1, (.t 20)), (1, 1, (.t 21))], none, false⟩,
       ⟨none, .store 2 (.t 2) (.t 22), none, false⟩] []) (.ret))))
def d44 : DFn := ⟨23, [.cell 2 (some 2)], c44⟩
def c45 : DCode :=
 .seq (.region [⟨some 2, .box 24 (.t 0), none, false⟩,
    ⟨some 3, .box 24 (.t 1), none, false⟩,
    ⟨some 4, .mv (.c (.one (.v (.s (.bool false))))), none, false⟩] []) (.seq (.region [⟨some 5, .faddr 0 (.t 2), none, false⟩,
     ⟨some 6, .load none (.t 5), none, false⟩,
     ⟨some 7, .faddr 0 (.t 3), none, false⟩,
     ⟨some 8, .load none (.t 7), none, false⟩,
     ⟨some 9, .bin .eql (.t 6) (.t 8), none, false⟩,
     ⟨some 10, .mv (.t 9), none, false⟩,
     ⟨some 11, .faddr 1 (.t 2), (some (10, true)), false⟩,
     ⟨some 12, .load none (.t 11), (some (10, true)), false⟩,
     ⟨some 13, .faddr 1 (.t 3), (some (10, true)), false⟩,
     ⟨some 14, .load none (.t 13), (some (10, true)), false⟩,
     ⟨some 15, .call (.c (.one (.fn (.func 70) [] []))) [(.t 12), (.t 14), (.c (.one (.fn (.func 45) [] [])))], (some (10, true)), false⟩,
     ⟨some 16, .pick (.t 10) (.t 15) (.c (.one (.v (.s (.bool false))))), none, false⟩,
     ⟨some 4, .mv (.t 16), none, false⟩] []) (.ret))
def d45 : DFn := ⟨17, [.t 4], c45⟩
def c46 : DCode :=
 .seq (.region [⟨some 2, .box 24 (.t 0), none, false⟩,
    ⟨some 3, .box 3 (.t 1), none, false⟩,
    ⟨some 4, .mv (.c (.one (.v (.s (.bool false))))), none, false⟩] []) (.seq (.region [⟨some 6, .call (.c (.one (.fn (.func 67) [] []))) [], none, false⟩,
     ⟨some 7, .mkfn (.func 72) [] [(.t 2)], none, false⟩,
     ⟨some 8, .call (.c (.one (.fn (.func 71) [] []))) [(.t 6), (.t 7)], none, false⟩,
     ⟨some 5, .mv (.t 8), none, false⟩] []) (.seq (.seq (.region [⟨some 9, .mv (.t 5), none, false⟩,
       ⟨some 10, .bin .lss (.t 9) (.c (.one (.v (.s (.int .i64 0))))), none, false⟩,
       ⟨some 11, .mv (.t 10), none, false⟩,
       ⟨some 12, .load none (.t 3), (some (11, false)), false⟩,
       ⟨some 13, .bin .lss (.t 12) (.c (.one (.v (.s (.int .i64 1))))), (some (11, false)), false⟩,
       ⟨some 14, .pick (.t 11) (.c (.one (.v (.s (.bool true))))) (.t 13), none, false⟩,
       ⟨some 15, .mv (.t 14), none, false⟩,
       ⟨some 16, .faddr 1 (.t 2), (some (15, false)), false⟩,
       ⟨some 17, .load none (.t 16), (some (15, false)), false⟩,
       ⟨some 18, .len false (.t 17), (some (15, false)), false⟩,
       ⟨some 19, .call (.c (.one (.fn (.func 67) [] []))) [], (some (15, false)), false⟩,
       ⟨some 20, .mv (.t 5), (some (15, false)), false⟩,
       ⟨some 21, .iaddr 3 (.t 19) (.t 20), (some (15, false)), false⟩,
       ⟨some 22, .faddr 2 (.t 21), (some (15, false)), false⟩,
       ⟨some 23, .load none (.t 22), (some (15, false)), false⟩,
       ⟨some 24, .bin .neq (.t 18) (.t 23), (some (15, false)), false⟩,
       ⟨some 25, .pick (.t 15) (.c (.one (.v (.s (.bool true))))) (.t 24), none, false⟩] [(8, 10)]) (.cond (.t 25) (.seq (.region [⟨some 4, .mv (.c (.one (.v (.s (.bool false))))), none, false⟩] []) (.ret)) (.skip))) (.seq (.region [⟨some 26, .faddr 1 (.t 2), none, false⟩,
       ⟨some 27, .load none (.t 26), none, false⟩,
       ⟨some 28, .mkfn (.func 74) [] [(.t 3)], none, false⟩,
       ⟨some 29, .call (.c (.one (.fn (.func 73) [] []))) [(.t 27), (.t 28)], none, false⟩,
       ⟨some 30, .un .not (.t 29), none, false⟩,
       ⟨some 4, .mv (.t 30), none, false⟩] []) (.ret))))
def d46 : DFn := ⟨31, [.t 4], c46⟩
def c47 : DCode :=
 .seq (.region [⟨some 2, .box 40 (.t 0), none, false⟩,
    ⟨some 3, .box 40 (.t 1), none, false⟩,
    ⟨some 4, .mv (.c (.one (.v (.s (.int .i64 0))))), none, false⟩] []) (.seq (.seq (.region [⟨some 8, .faddr 0 (.t 2), none, false⟩,
      ⟨some 9, .load none (.t 8), none, false⟩,
      ⟨some 10, .faddr 0 (.t 3), none, false⟩,
      ⟨some 11, .load none (.t 10), none, false⟩,
      ⟨some 12, .bin .neq (.t 9) (.t 11), none, false⟩] []) (.cond (.t 12) (.seq (.region [⟨some 13, .faddr 0 (.t 2), none, false⟩,
        ⟨some 14, .load none (.t 13), none, false⟩,
        ⟨some 15, .faddr 0 (.t 3), none, false⟩,
        ⟨some 16, .load none (.t 15), none, false⟩,
        ⟨some 17, .call (.c (.one (.fn (.func 75) [] []))) [(.t 14), (.t 16)], none, false⟩,
        ⟨some 4, .mv (.t 17), none, false⟩] []) (.ret)) (.skip))) (.seq (.seq (.region [⟨some 18, .faddr 0 (.t 2), none, false⟩,
       ⟨some 19, .load none (.t 18), none, false⟩] []) (.block 0 (.seq (.seq (.region [⟨some 21, .bin .eql (.t 19) (.c (.one (.v (.s (.int .i64 1))))), none, false⟩,
          ⟨some 20, .mv (.t 21), none, false⟩] []) (.cond (.t 20) (.skip) (.region [⟨some 22, .bin .eql (.t 19) (.c (.one (.v (.s (.int .i64 2))))), none, false⟩,
           ⟨some 20, .mv (.t 22), none, false⟩] []))) (.cond (.t 20) (.seq (.region [⟨some 23, .faddr 1 (.t 2), none, false⟩,
           ⟨some 24, .load none (.t 23), none, false⟩,
           ⟨some 25, .faddr 1 (.t 3), none, false⟩,
           ⟨some 26, .load none (.t 25), none, false⟩,
           ⟨some 27, .call (.c (.one (.fn (.func 75) [] []))) [(.t 24), (.t 26)], none, false⟩,
           ⟨some 4, .mv (.t 27), none, false⟩] []) (.ret)) (.seq (.seq (.region [⟨some 29, .bin .eql (.t 19) (.c (.one (.v (.s (.int .i64 3))))), none, false⟩,
            ⟨some 28, .mv (.t 29), none, false⟩] []) (.cond (.t 28) (.skip) (.region [⟨some 30, .bin .eql (.t 19) (.c (.one (.v (.s (.int .i64 4))))), none, false⟩,
             ⟨some 28, .mv (.t 30), none, false⟩] []))) (.cond (.t 28) (.seq (.region [⟨some 31, .faddr 2 (.t 2), none, false⟩,
             ⟨some 32, .load none (.t 31), none, false⟩,
             ⟨some 33, .faddr 2 (.t 3), none, false⟩,
             ⟨some 34, .load none (.t 33), none, false⟩,
             ⟨some 35, .call (.c (.one (.fn (.func 76) [] []))) [(.t 32), (.t 34)], none, false⟩,
             ⟨some 4, .mv (.t 35), none, false⟩] []) (.ret)) (.seq (.region [⟨some 37, .bin .eql (.t 19) (.c (.one (.v (.s (.int .i64 5))))), none, false⟩,
             ⟨some 36, .mv (.t 37), none, false⟩] []) (.cond (.t 36) (.seq (.seq (.region [⟨some 38, .faddr 3 (.t 2), none, false⟩,
                ⟨some 39, .load none (.t 38), none, false⟩,
                ⟨some 40, .pureBi .real [(.t 39)], none, false⟩,
                ⟨some 41, .conv (.toInt .i64) (.t 40), none, false⟩,
                ⟨some 42, .faddr 3 (.t 3), none, false⟩,
                ⟨some 43, .load none (.t 42), none, false⟩,
                ⟨some 44, .pureBi .real [(.t 43)], none, false⟩,
                ⟨some 45, .conv (.toInt .i64) (.t 44), none, false⟩,
                ⟨some 46, .call (.c (.one (.fn (.func 75) [] []))) [(.t 41), (.t 45)], none, false⟩,
                ⟨some 5, .mv (.t 46), none, false⟩] []) (.seq (.region [⟨some 47, .mv (.t 5), none, false⟩,
                 ⟨some 48, .bin .neq (.t 47) (.c (.one (.v (.s (.int .i64 0))))), none, false⟩] []) (.cond (.t 48) (.seq (.region [⟨some 49, .mv (.t 5), none, false⟩,
                   ⟨some 4, .mv (.t 49), none, false⟩] []) (.ret)) (.skip)))) (.seq (.region [⟨some 50, .faddr 3 (.t 2), none, false⟩,
                ⟨some 51, .load none (.t 50), none, false⟩,
                ⟨some 52, .pureBi .imag [(.t 51)], none, false⟩,
                ⟨some 53, .conv (.toInt .i64) (.t 52), none, false⟩,
                ⟨some 54, .faddr 3 (.t 3), none, false⟩,
                ⟨some 55, .load none (.t 54), none, false⟩,
                ⟨some 56, .pureBi .imag [(.t 55)], none, false⟩,
                ⟨some 57, .conv (.toInt .i64) (.t 56), none, false⟩,
                ⟨some 58, .call (.c (.one (.fn (.func 75) [] []))) [(.t 53), (.t 57)], none, false⟩,
                ⟨some 4, .mv (.t 58), none, false⟩] []) (.ret))) (.skip))))))))) (.seq (.seq (.region [⟨some 6, .mv (.c (.one (.v (.s (.int .i64 0))))), none, false⟩] []) (.block 1 (.loop (.seq (.seq (.region [⟨some 59, .mv (.t 6), none, false⟩,
            ⟨some 60, .faddr 4 (.t 2), none, false⟩,
            ⟨some 61, .load none (.t 60), none, false⟩,
            ⟨some 62, .len false (.t 61), none, false⟩,
            ⟨some 63, .bin .lss (.t 59) (.t 62), none, false⟩,
            ⟨some 64, .mv (.t 63), none, false⟩,
            ⟨some 65, .mv (.t 6), (some (64, true)), false⟩,
            ⟨some 66, .faddr 4 (.t 3), (some (64, true)), false⟩,
            ⟨some 67, .load none (.t 66), (some (64, true)), false⟩,
            ⟨some 68, .len false (.t 67), (some (64, true)), false⟩,
            ⟨some 69, .bin .lss (.t 65) (.t 68), (some (64, true)), false⟩,
            ⟨some 70, .pick (.t 64) (.t 69) (.c (.one (.v (.s (.bool false))))), none, false⟩] []) (.cond (.t 70) (.skip) (.exit 1))) (.seq (.block 2 (.seq (.region [⟨some 73, .faddr 4 (.t 2), none, false⟩,
              ⟨some 74, .load none (.t 73), none, false⟩,
              ⟨some 75, .mv (.t 6), none, false⟩,
              ⟨some 76, .iaddr 5 (.t 74) (.t 75), none, false⟩,
              ⟨some 77, .load (some 5) (.t 76), none, false⟩,
              ⟨some 78, .faddr 4 (.t 3), none, false⟩,
              ⟨some 79, .load none (.t 78), none, false⟩,
              ⟨some 80, .mv (.t 6), none, false⟩,
              ⟨some 81, .iaddr 5 (.t 79) (.t 80), none, false⟩,
              ⟨some 82, .load (some 5) (.t 81), none, false⟩,
              ⟨some 83, .call (.c (.one (.fn (.func 47) [] []))) [(.t 77), (.t 82)], none, false⟩,
              ⟨some 7, .mv (.t 83), none, false⟩] []) (.seq (.region [⟨some 84, .mv (.t 7), none, false⟩,
               ⟨some 85, .bin .neq (.t 84) (.c (.one (.v (.s (.int .i64 0))))), none, false⟩] []) (.cond (.t 85) (.seq (.region [⟨some 86, .mv (.t 7), none, false⟩,
                 ⟨some 4, .mv (.t 86), none, false⟩] []) (.ret)) (.skip))))) (.region [⟨some 71, .mv (.t 6), none, false⟩,
            ⟨some 72, .bin .add (.t 71) (.c (.one (.v (.s (.int .i64 1))))), none, false⟩,
            ⟨some 6, .mv (.t 72), none, false⟩] [])))))) (.seq (.region [⟨some 87, .faddr 4 (.t 2), none, false⟩,
        ⟨some 88, .load none (.t 87), none, false⟩,
        ⟨some 89, .len false (.t 88), none, false⟩,
        ⟨some 90, .faddr 4 (.t 3), none, false⟩,
        ⟨some 91, .load none (.t 90), none, false⟩,
        ⟨some 92, .len false (.t 91), none, false⟩,
        ⟨some 93, .call (.c (.one (.fn (.func 75) [] []))) [(.t 89), (.t 92)], none, false⟩,
        ⟨some 4, .mv (.t 93), none, false⟩] []) (.ret)))))
def d47 : DFn := ⟨94, [.t 4], c47⟩
def c66 : DCode :=
 .seq (.region [⟨some 4, .alloc 24 [.v (.s (.int .i64 0)), .esl], none, false⟩,
    ⟨some 5, .mv (.c (.one (.v (.s (.bool false))))), none, false⟩] []) (.seq (.region [⟨some 13, .mv (.t 0), none, false⟩,
     ⟨some 14, .mv (.t 1), none, false⟩,
     ⟨some 15, .call (.c (.one (.fn (.func 89) [] []))) [(.t 13), (.t 14)], none, false⟩,
     ⟨some 12, .mv (.t 15), none, false⟩,
     ⟨some 16, .extract (.t 12) 0, none, false⟩,
     ⟨some 17, .extract (.t 12) 1, none, false⟩,
     ⟨some 6, .alloc 124 [.v (.s (.int .i64 0)), .v (.s (.string ⟨#[]⟩)), .v (.s (.int .i64 0))], none, false⟩,
     ⟨none, .store 3 (.t 6) (.t 16), none, false⟩,
     ⟨some 7, .mv (.t 17), none, false⟩] []) (.seq (.seq (.region [⟨some 18, .mv (.t 7), none, false⟩,
       ⟨some 19, .un .not (.t 18), none, false⟩] []) (.cond (.t 19) (.seq (.region [⟨some 20, .build [.v (.s (.int .i64 0)), .esl] [], none, false⟩,
         ⟨none, .store 2 (.t 4) (.t 20), none, false⟩,
         ⟨some 5, .mv (.c (.one (.v (.s (.bool false))))), none, false⟩] []) (.ret)) (.skip))) (.seq (.region [⟨some 21, .faddr 0 (.t 6), none, false⟩,
       ⟨some 22, .load none (.t 21), none, false⟩,
       ⟨some 23, .build [.v (.s (.int .i64 0)), .esl] [(0, 1, (.t 22))], none, false⟩,
       ⟨some 8, .alloc 24 [.v (.s (.int .i64 0)), .esl], none, false⟩,
       ⟨none, .store 2 (.t 8) (.t 23), none, false⟩] []) (.seq (.seq (.region [⟨some 24, .faddr 2 (.t 6), none, false⟩,
         ⟨some 25, .load none (.t 24), none, false⟩,
         ⟨some 26, .mv (.c (.one (.v (.s (.int .i64 0))))), none, false⟩] []) (.block 0 (.loop (.seq (.region [⟨some 27, .bin .lss (.t 26) (.t 25), none, false⟩] []) (.seq (.cond (.t 27) (.skip) (.exit 0)) (.seq (.block 1 (.seq (.region [⟨some 28, .mv (.t 26), none, false⟩,
                ⟨some 9, .mv (.t 28), none, false⟩] []) (.seq (.seq (.region [⟨some 29, .mv (.t 0), none, false⟩,
                  ⟨some 30, .mv (.t 9), none, false⟩,
                  ⟨some 31, .index (.c (.one (.v (.s (.string ⟨#[40, 44]⟩))))) (.t 30), none, false⟩,
                  ⟨some 32, .call (.c (.one (.fn (.func 90) [] []))) [(.t 29), (.t 31)], none, false⟩,
                  ⟨some 33, .un .not (.t 32), none, false⟩] []) (.cond (.t 33) (.seq (.region [⟨some 34, .build [.v (.s (.int .i64 0)), .esl] [], none, false⟩,
                    ⟨none, .store 2 (.t 4) (.t 34), none, false⟩,
                    ⟨some 5, .mv (.c (.one (.v (.s (.bool false))))), none, false⟩] []) (.ret)) (.skip))) (.seq (.region [⟨some 36, .mv (.t 0), none, false⟩,
                  ⟨some 37, .mv (.t 1), none, false⟩,
                  ⟨some 38, .bin .sub (.t 37) (.c (.one (.v (.s (.int .i64 1))))), none, false⟩,
                  ⟨some 39, .call (.c (.one (.fn (.func 66) [] []))) [(.t 36), (.t 38)], none, false⟩,
                  ⟨some 35, .mv (.t 39), none, false⟩,
                  ⟨some 40, .extract (.t 35) 0, none, false⟩,
                  ⟨some 41, .extract (.t 35) 1, none, false⟩,
                  ⟨some 10, .alloc 24 [.v (.s (.int .i64 0)), .esl], none, false⟩,
                  ⟨none, .store 2 (.t 10) (.t 40), none, false⟩,
                  ⟨some 11, .mv (.t 41), none, false⟩] []) (.seq (.seq (.region [⟨some 42, .mv (.t 11), none, false⟩,
                    ⟨some 43, .un .not (.t 42), none, false⟩] []) (.cond (.t 43) (.seq (.region [⟨some 44, .build [.v (.s (.int .i64 0)), .esl] [], none, false⟩,
                      ⟨none, .store 2 (.t 4) (.t 44), none, false⟩,
                      ⟨some 5, .mv (.c (.one (.v (.s (.bool false))))), none, false⟩] []) (.ret)) (.skip))) (.region [⟨some 45, .faddr 1 (.t 8), none, false⟩,
                   ⟨some 46, .load none (.t 45), none, false⟩,
                   ⟨some 47, .load (some 2) (.t 10), none, false⟩,
                   ⟨some 48, .bsl 24 2 false [(.t 47)], none, false⟩,
                   ⟨some 49, .append 24 2 32 false (.t 46) (.t 48), none, false⟩,
                   ⟨some 50, .faddr 1 (.t 8), none, false⟩,
                   ⟨none, .store 1 (.t 50) (.t 49), none, false⟩] [])))))) (.region [⟨some 51, .bin .add (.t 26) (.c (.one (.v (.s (.int .i64 1))))), none, false⟩,
              ⟨some 26, .mv (.t 51), none, false⟩] []))))))) (.seq (.region [⟨some 52, .load (some 2) (.t 8), none, false⟩,
         ⟨some 53, .faddr 2 (.t 6), none, false⟩,
         ⟨some 54, .load none (.t 53), none, false⟩,
         ⟨some 55, .bin .eql (.t 54) (.c (.one (.v (.s (.int .i64 0))))), none, false⟩,
         ⟨some 56, .mv (.t 55), none, false⟩,
         ⟨some 57, .mv (.t 0), (some (56, false)), false⟩,
         ⟨some 58, .call (.c (.one (.fn (.func 90) [] []))) [(.t 57), (.c (.one (.v (.s (.int .u8 41)))))], (some (56, false)), false⟩,
         ⟨some 59, .pick (.t 56) (.c (.one (.v (.s (.bool true))))) (.t 58), none, false⟩,
         ⟨none, .store 2 (.t 4) (.t 52), none, false⟩,
         ⟨some 5, .mv (.t 59), none, false⟩] [(0, 6)]) (.ret))))))
def d66 : DFn := ⟨60, [.cell 4 (some 2), .t 5], c66⟩
def c67 : DCode :=
 .seq (.region [⟨some 0, .mv (.c (.one (.esl))), none, false⟩] []) (.seq (.region [⟨some 1, .build [.v (.s (.int .i64 0)), .v (.s (.string ⟨#[]⟩)), .v (.s (.int .i64 0))] [(0, 1, (.c (.one (.v (.s (.int .i64 1)))))), (1, 1, (.c (.one (.v (.s (.string ⟨#[98, 111, 111, 108]⟩)))))), (2, 1, (.c (.one (.v (.s (.int .i64 0))))))], none, false⟩,
     ⟨some 2, .build [.v (.s (.int .i64 0)), .v (.s (.string ⟨#[]⟩)), .v (.s (.int .i64 0))] [(0, 1, (.c (.one (.v (.s (.int .i64 2)))))), (1, 1, (.c (.one (.v (.s (.string ⟨#[105, 110, 116]⟩)))))), (2, 1, (.c (.one (.v (.s (.int .i64 0))))))], none, false⟩,
     ⟨some 3, .build [.v (.s (.int .i64 0)), .v (.s (.string ⟨#[]⟩)), .v (.s (.int .i64 0))] [(0, 1, (.c (.one (.v (.s (.int .i64 3)))))), (1, 1, (.c (.one (.v (.s (.string ⟨#[116, 101, 120, 116]⟩)))))), (2, 1, (.c (.one (.v (.s (.int .i64 0))))))], none, false⟩,
     ⟨some 4, .build [.v (.s (.int .i64 0)), .v (.s (.string ⟨#[]⟩)), .v (.s (.int .i64 0))] [(0, 1, (.c (.one (.v (.s (.int .i64 4)))))), (1, 1, (.c (.one (.v (.s (.string ⟨#[98, 121, 116, 101, 115]⟩)))))), (2, 1, (.c (.one (.v (.s (.int .i64 0))))))], none, false⟩,
     ⟨some 5, .build [.v (.s (.int .i64 0)), .v (.s (.string ⟨#[]⟩)), .v (.s (.int .i64 0))] [(0, 1, (.c (.one (.v (.s (.int .i64 5)))))), (1, 1, (.c (.one (.v (.s (.string ⟨#[112, 111, 105, 110, 116]⟩)))))), (2, 1, (.c (.one (.v (.s (.int .i64 0))))))], none, false⟩,
     ⟨some 6, .build [.v (.s (.int .i64 0)), .v (.s (.string ⟨#[]⟩)), .v (.s (.int .i64 0))] [(0, 1, (.c (.one (.v (.s (.int .i64 6)))))), (1, 1, (.c (.one (.v (.s (.string ⟨#[112, 97, 105, 114]⟩)))))), (2, 1, (.c (.one (.v (.s (.int .i64 2))))))], none, false⟩,
     ⟨some 7, .build [.v (.s (.int .i64 0)), .v (.s (.string ⟨#[]⟩)), .v (.s (.int .i64 0))] [(0, 1, (.c (.one (.v (.s (.int .i64 7)))))), (1, 1, (.c (.one (.v (.s (.string ⟨#[108, 105, 115, 116]⟩)))))), (2, 1, (.c (.one (.v (.s (.int .i64 1))))))], none, false⟩,
     ⟨some 8, .build [.v (.s (.int .i64 0)), .v (.s (.string ⟨#[]⟩)), .v (.s (.int .i64 0))] [(0, 1, (.c (.one (.v (.s (.int .i64 9)))))), (1, 1, (.c (.one (.v (.s (.string ⟨#[111, 112, 116, 105, 111, 110]⟩)))))), (2, 1, (.c (.one (.v (.s (.int .i64 1))))))], none, false⟩,
     ⟨some 9, .bsl 124 3 true [(.t 1), (.t 2), (.t 3), (.t 4), (.t 5), (.t 6), (.t 7), (.t 8)], none, false⟩,
     ⟨some 0, .mv (.t 9), none, false⟩] []) (.ret))
def d67 : DFn := ⟨10, [.t 0], c67⟩
def c68 : DCode :=
 .seq (.region [⟨some 4, .mv (.c (.one (.v (.s (.int .i64 0))))), none, false⟩,
    ⟨some 5, .mv (.c (.one (.v (.s .nilIface)))), none, false⟩] []) (.seq (.region [⟨some 6, .mv (.t 0), none, false⟩,
     ⟨some 7, .call (.c (.one (.fn (.func 91) [] []))) [(.t 6)], none, false⟩] []) (.seq (.region [⟨some 8, .mv (.t 0), none, false⟩,
      ⟨some 9, .mv (.t 0), none, false⟩,
      ⟨some 10, .nilck (.t 9), none, false⟩,
      ⟨some 11, .faddr 1 (.t 10), none, false⟩,
      ⟨some 12, .load none (.t 11), none, false⟩,
      ⟨some 13, .mv (.t 1), none, false⟩,
      ⟨some 14, .append 5 1 1 false (.t 12) (.t 13), none, false⟩,
      ⟨some 15, .nilck (.t 8), none, false⟩,
      ⟨some 16, .faddr 1 (.t 15), none, false⟩,
      ⟨none, .store 1 (.t 16) (.t 14), none, false⟩] []) (.seq (.region [⟨some 17, .mv (.t 1), none, false⟩,
       ⟨some 18, .len true (.t 17), none, false⟩,
       ⟨some 4, .mv (.t 18), none, false⟩,
       ⟨some 5, .mv (.c (.one (.v (.s .nilIface)))), none, false⟩] []) (.ret))))
def d68 : DFn := ⟨19, [.t 4, .t 5], c68⟩
def c69 : DCode :=
 .seq (.region [⟨some 4, .mv (.c (.one (.v (.s .nilIface)))), none, false⟩] []) (.seq (.region [⟨some 5, .mv (.t 0), none, false⟩,
     ⟨some 6, .call (.c (.one (.fn (.func 91) [] []))) [(.t 5)], none, false⟩] []) (.seq (.region [⟨some 7, .mv (.t 0), none, false⟩,
      ⟨some 8, .mv (.t 0), none, false⟩,
      ⟨some 9, .nilck (.t 8), none, false⟩,
      ⟨some 10, .faddr 1 (.t 9), none, false⟩,
      ⟨some 11, .load none (.t 10), none, false⟩,
      ⟨some 12, .mv (.t 1), none, false⟩,
      ⟨some 13, .bsl 5 1 false [(.t 12)], none, false⟩,
      ⟨some 14, .append 5 1 1 false (.t 11) (.t 13), none, false⟩,
      ⟨some 15, .nilck (.t 7), none, false⟩,
      ⟨some 16, .faddr 1 (.t 15), none, false⟩,
      ⟨none, .store 1 (.t 16) (.t 14), none, false⟩] []) (.seq (.region [⟨some 4, .mv (.c (.one (.v (.s .nilIface)))), none, false⟩] []) (.ret))))
def d69 : DFn := ⟨17, [.t 4], c69⟩
def c70 : DCode :=
 .seq (.region [⟨some 6, .mv (.c (.one (.v (.s (.bool false))))), none, false⟩] []) (.seq (.seq (.region [⟨some 10, .mv (.t 0), none, false⟩,
      ⟨some 11, .len false (.t 10), none, false⟩,
      ⟨some 12, .mv (.t 1), none, false⟩,
      ⟨some 13, .len false (.t 12), none, false⟩,
      ⟨some 14, .bin .neq (.t 11) (.t 13), none, false⟩] []) (.cond (.t 14) (.seq (.region [⟨some 6, .mv (.c (.one (.v (.s (.bool false))))), none, false⟩] []) (.ret)) (.skip))) (.seq (.seq (.region [⟨some 15, .mv (.t 0), none, false⟩,
       ⟨some 16, .len false (.t 15), none, false⟩,
       ⟨some 17, .mv (.c (.one (.v (.s (.int .i64 0))))), none, false⟩] []) (.block 0 (.loop (.seq (.region [⟨some 18, .bin .lss (.t 17) (.t 16), none, false⟩] []) (.seq (.cond (.t 18) (.skip) (.exit 0)) (.seq (.block 1 (.seq (.region [⟨some 19, .mv (.t 17), none, false⟩,
              ⟨some 20, .iaddr 2 (.t 15) (.t 17), none, false⟩,
              ⟨some 21, .load (some 2) (.t 20), none, false⟩,
              ⟨some 8, .alloc 24 [.v (.s (.int .i64 0)), .esl], none, false⟩,
              ⟨some 7, .mv (.t 19), none, false⟩,
              ⟨none, .store 2 (.t 8) (.t 21), none, false⟩] []) (.seq (.region [⟨some 22, .mv (.t 1), none, false⟩,
               ⟨some 23, .mv (.t 7), none, false⟩,
               ⟨some 24, .iaddr 2 (.t 22) (.t 23), none, false⟩,
               ⟨some 25, .load (some 2) (.t 24), none, false⟩,
               ⟨some 9, .alloc 24 [.v (.s (.int .i64 0)), .esl], none, false⟩,
               ⟨none, .store 2 (.t 9) (.t 25), none, false⟩] []) (.seq (.region [⟨some 26, .mv (.t 2), none, false⟩,
                ⟨some 27, .load (some 2) (.t 8), none, false⟩,
                ⟨some 28, .load (some 2) (.t 9), none, false⟩,
                ⟨some 29, .call (.t 26) [(.t 27), (.t 28)], none, false⟩,
                ⟨some 30, .un .not (.t 29), none, false⟩] []) (.cond (.t 30) (.seq (.region [⟨some 6, .mv (.c (.one (.v (.s (.bool false))))), none, false⟩] []) (.ret)) (.skip)))))) (.region [⟨some 31, .bin .add (.t 17) (.c (.one (.v (.s (.int .i64 1))))), none, false⟩,
            ⟨some 17, .mv (.t 31), none, false⟩] []))))))) (.seq (.region [⟨some 6, .mv (.c (.one (.v (.s (.bool true))))), none, false⟩] []) (.ret))))
def d70 : DFn := ⟨32, [.t 6], c70⟩
def c71 : DCode :=
 .seq (.region [⟨some 4, .mv (.c (.one (.v (.s (.int .i64 0))))), none, false⟩] []) (.seq (.seq (.region [⟨some 6, .mv (.t 0), none, false⟩,
      ⟨some 7, .len false (.t 6), none, false⟩,
      ⟨some 8, .mv (.c (.one (.v (.s (.int .i64 0))))), none, false⟩] []) (.block 0 (.loop (.seq (.region [⟨some 9, .bin .lss (.t 8) (.t 7), none, false⟩] []) (.seq (.cond (.t 9) (.skip) (.exit 0)) (.seq (.block 1 (.seq (.region [⟨some 10, .mv (.t 8), none, false⟩,
             ⟨some 5, .mv (.t 10), none, false⟩] []) (.seq (.region [⟨some 11, .mv (.t 1), none, false⟩,
              ⟨some 12, .mv (.t 0), none, false⟩,
              ⟨some 13, .mv (.t 5), none, false⟩,
              ⟨some 14, .iaddr 3 (.t 12) (.t 13), none, false⟩,
              ⟨some 15, .load (some 3) (.t 14), none, false⟩,
              ⟨some 16, .call (.t 11) [(.t 15)], none, false⟩] []) (.cond (.t 16) (.seq (.region [⟨some 17, .mv (.t 5), none, false⟩,
                ⟨some 4, .mv (.t 17), none, false⟩] []) (.ret)) (.skip))))) (.region [⟨some 18, .bin .add (.t 8) (.c (.one (.v (.s (.int .i64 1))))), none, false⟩,
           ⟨some 8, .mv (.t 18), none, false⟩] []))))))) (.seq (.region [⟨some 4, .mv (.c (.one (.v (.s (.int .i64 (-1)))))), none, false⟩] []) (.ret)))
def d71 : DFn := ⟨19, [.t 4], c71⟩
def c72 : DCode :=
 .seq (.region [⟨some 2, .box 124 (.t 0), none, false⟩,
    ⟨some 3, .mv (.c (.one (.v (.s (.bool false))))), none, false⟩] []) (.seq (.region [⟨some 4, .faddr 0 (.t 2), none, false⟩,
     ⟨some 5, .load none (.t 4), none, false⟩,
     ⟨some 6, .faddr 0 (.t 1), none, false⟩,
     ⟨some 7, .load none (.t 6), none, false⟩,
     ⟨some 8, .bin .eql (.t 5) (.t 7), none, false⟩,
     ⟨some 3, .mv (.t 8), none, false⟩] []) (.ret))
def d72 : DFn := ⟨9, [.t 3], c72⟩
def c73 : DCode :=
 .seq (.region [⟨some 4, .mv (.c (.one (.v (.s (.bool false))))), none, false⟩] []) (.seq (.region [⟨some 5, .mv (.t 0), none, false⟩,
     ⟨some 6, .mv (.t 1), none, false⟩,
     ⟨some 7, .call (.c (.one (.fn (.func 92) [] []))) [(.t 5), (.t 6)], none, false⟩,
     ⟨some 8, .bin .geq (.t 7) (.c (.one (.v (.s (.int .i64 0))))), none, false⟩,
     ⟨some 4, .mv (.t 8), none, false⟩] []) (.ret))
def d73 : DFn := ⟨9, [.t 4], c73⟩
def c74 : DCode :=
 .seq (.region [⟨some 2, .box 24 (.t 0), none, false⟩,
    ⟨some 3, .mv (.c (.one (.v (.s (.bool false))))), none, false⟩] []) (.seq (.region [⟨some 4, .load (some 2) (.t 2), none, false⟩,
     ⟨some 5, .load none (.t 1), none, false⟩,
     ⟨some 6, .bin .sub (.t 5) (.c (.one (.v (.s (.int .i64 1))))), none, false⟩,
     ⟨some 7, .call (.c (.one (.fn (.func 46) [] []))) [(.t 4), (.t 6)], none, false⟩,
     ⟨some 8, .un .not (.t 7), none, false⟩,
     ⟨some 3, .mv (.t 8), none, false⟩] []) (.ret))
def d74 : DFn := ⟨9, [.t 3], c74⟩
def c75 : DCode :=
 .seq (.region [⟨some 4, .mv (.c (.one (.v (.s (.int .i64 0))))), none, false⟩] []) (.seq (.seq (.region [⟨some 5, .mv (.t 0), none, false⟩,
      ⟨some 6, .mv (.t 1), none, false⟩,
      ⟨some 7, .bin .lss (.t 5) (.t 6), none, false⟩] []) (.cond (.t 7) (.seq (.region [⟨some 4, .mv (.c (.one (.v (.s (.int .i64 (-1)))))), none, false⟩] []) (.ret)) (.skip))) (.seq (.seq (.region [⟨some 8, .mv (.t 0), none, false⟩,
       ⟨some 9, .mv (.t 1), none, false⟩,
       ⟨some 10, .bin .gtr (.t 8) (.t 9), none, false⟩] []) (.cond (.t 10) (.seq (.region [⟨some 4, .mv (.c (.one (.v (.s (.int .i64 1))))), none, false⟩] []) (.ret)) (.skip))) (.seq (.region [⟨some 4, .mv (.c (.one (.v (.s (.int .i64 0))))), none, false⟩] []) (.ret))))
def d75 : DFn := ⟨11, [.t 4], c75⟩
def c76 : DCode :=
 .seq (.region [⟨some 4, .mv (.c (.one (.v (.s (.int .i64 0))))), none, false⟩] []) (.seq (.seq (.region [⟨some 5, .mv (.c (.one (.v (.s (.int .i64 0))))), none, false⟩] []) (.block 0 (.loop (.seq (.seq (.region [⟨some 6, .mv (.t 5), none, false⟩,
          ⟨some 7, .mv (.t 0), none, false⟩,
          ⟨some 8, .len true (.t 7), none, false⟩,
          ⟨some 9, .bin .lss (.t 6) (.t 8), none, false⟩,
          ⟨some 10, .mv (.t 9), none, false⟩,
          ⟨some 11, .mv (.t 5), (some (10, true)), false⟩,
          ⟨some 12, .mv (.t 1), (some (10, true)), false⟩,
          ⟨some 13, .len true (.t 12), (some (10, true)), false⟩,
          ⟨some 14, .bin .lss (.t 11) (.t 13), (some (10, true)), false⟩,
          ⟨some 15, .pick (.t 10) (.t 14) (.c (.one (.v (.s (.bool false))))), none, false⟩] []) (.cond (.t 15) (.skip) (.exit 0))) (.seq (.block 1 (.seq (.region [⟨some 18, .mv (.t 0), none, false⟩,
            ⟨some 19, .mv (.t 5), none, false⟩,
            ⟨some 20, .index (.t 18) (.t 19), none, false⟩,
            ⟨some 21, .mv (.t 1), none, false⟩,
            ⟨some 22, .mv (.t 5), none, false⟩,
            ⟨some 23, .index (.t 21) (.t 22), none, false⟩,
            ⟨some 24, .bin .neq (.t 20) (.t 23), none, false⟩] []) (.cond (.t 24) (.seq (.region [⟨some 25, .mv (.t 0), none, false⟩,
              ⟨some 26, .mv (.t 5), none, false⟩,
              ⟨some 27, .index (.t 25) (.t 26), none, false⟩,
              ⟨some 28, .conv (.toInt .i64) (.t 27), none, false⟩,
              ⟨some 29, .mv (.t 1), none, false⟩,
              ⟨some 30, .mv (.t 5), none, false⟩,
              ⟨some 31, .index (.t 29) (.t 30), none, false⟩,
              ⟨some 32, .conv (.toInt .i64) (.t 31), none, false⟩,
              ⟨some 33, .call (.c (.one (.fn (.func 75) [] []))) [(.t 28), (.t 32)], none, false⟩,
              ⟨some 4, .mv (.t 33), none, false⟩] []) (.ret)) (.skip)))) (.region [⟨some 16, .mv (.t 5), none, false⟩,
          ⟨some 17, .bin .add (.t 16) (.c (.one (.v (.s (.int .i64 1))))), none, false⟩,
          ⟨some 5, .mv (.t 17), none, false⟩] [])))))) (.seq (.region [⟨some 34, .mv (.t 0), none, false⟩,
      ⟨some 35, .len true (.t 34), none, false⟩,
      ⟨some 36, .mv (.t 1), none, false⟩,
      ⟨some 37, .len true (.t 36), none, false⟩,
      ⟨some 38, .call (.c (.one (.fn (.func 75) [] []))) [(.t 35), (.t 37)], none, false⟩,
      ⟨some 4, .mv (.t 38), none, false⟩] []) (.ret)))
def d76 : DFn := ⟨39, [.t 4], c76⟩
def c89 : DCode :=
 .seq (.region [⟨some 2, .box 116 (.t 0), none, false⟩,
    ⟨some 3, .box 3 (.t 1), none, false⟩,
    ⟨some 4, .alloc 124 [.v (.s (.int .i64 0)), .v (.s (.string ⟨#[]⟩)), .v (.s (.int .i64 0))], none, false⟩,
    ⟨some 5, .mv (.c (.one (.v (.s (.bool false))))), none, false⟩] []) (.scope (.seq (.region [⟨some 10, .call (.c (.one (.fn (.func 67) [] []))) [], none, true⟩,
      ⟨some 11, .mkfn (.func 108) [] [(.t 3)], none, false⟩,
      ⟨some 12, .call (.c (.one (.fn (.func 107) [] []))) [(.t 10), (.t 11)], none, false⟩,
      ⟨some 6, .mv (.t 12), none, false⟩] []) (.seq (.region [⟨some 7, .alloc 3 [.v (.s (.int .i64 0))], none, false⟩,
       ⟨none, .store 1 (.t 7) (.c (.one (.v (.s (.int .i64 0))))), none, false⟩] []) (.seq (.label 0) (.seq (.seq (.region [⟨some 13, .mv (.t 6), none, false⟩,
          ⟨some 14, .len false (.t 13), none, false⟩,
          ⟨some 15, .mv (.c (.one (.v (.s (.int .i64 0))))), none, false⟩] []) (.block 0 (.loop (.seq (.region [⟨some 16, .bin .lss (.t 15) (.t 14), none, false⟩] []) (.seq (.cond (.t 16) (.skip) (.exit 0)) (.seq (.block 1 (.seq (.region [⟨some 17, .iaddr 3 (.t 13) (.t 15), none, false⟩,
                 ⟨some 18, .load (some 3) (.t 17), none, false⟩,
                 ⟨some 9, .alloc 124 [.v (.s (.int .i64 0)), .v (.s (.string ⟨#[]⟩)), .v (.s (.int .i64 0))], none, false⟩,
                 ⟨none, .store 3 (.t 9) (.t 18), none, false⟩] []) (.seq (.region [⟨some 19, .faddr 1 (.t 9), none, false⟩,
                  ⟨some 20, .load none (.t 19), none, false⟩,
                  ⟨some 21, .len true (.t 20), none, false⟩,
                  ⟨some 22, .load none (.t 7), none, false⟩,
                  ⟨some 23, .bin .eql (.t 21) (.t 22), none, false⟩] []) (.cond (.t 23) (.seq (.region [⟨some 24, .load (some 3) (.t 9), none, false⟩,
                    ⟨none, .store 3 (.t 4) (.t 24), none, false⟩,
                    ⟨some 5, .mv (.c (.one (.v (.s (.bool true))))), none, false⟩] []) (.ret)) (.skip))))) (.region [⟨some 25, .bin .add (.t 15) (.c (.one (.v (.s (.int .i64 1))))), none, false⟩,
               ⟨some 15, .mv (.t 25), none, false⟩] []))))))) (.seq (.seq (.region [⟨some 26, .load none (.t 2), none, false⟩,
           ⟨some 27, .nilck (.t 26), none, false⟩,
           ⟨some 28, .faddr 1 (.t 27), none, false⟩,
           ⟨some 29, .load none (.t 28), none, false⟩,
           ⟨some 30, .load none (.t 2), none, false⟩,
           ⟨some 31, .nilck (.t 30), none, false⟩,
           ⟨some 32, .faddr 0 (.t 31), none, false⟩,
           ⟨some 33, .load none (.t 32), none, false⟩,
           ⟨some 34, .len true (.t 33), none, false⟩,
           ⟨some 35, .bin .lss (.t 29) (.t 34), none, false⟩] []) (.cond (.t 35) (.seq (.region [⟨some 36, .mv (.t 6), none, false⟩,
             ⟨some 37, .mkfn (.func 109) [] [(.t 7), (.t 2)], none, false⟩,
             ⟨some 38, .call (.c (.one (.fn (.func 107) [] []))) [(.t 36), (.t 37)], none, false⟩,
             ⟨some 6, .mv (.t 38), none, false⟩] []) (.seq (.region [⟨some 39, .mv (.t 6), none, false⟩,
              ⟨some 40, .len false (.t 39), none, false⟩,
              ⟨some 41, .bin .gtr (.t 40) (.c (.one (.v (.s (.int .i64 0))))), none, false⟩] []) (.cond (.t 41) (.seq (.region [⟨some 42, .load none (.t 2), none, false⟩,
                ⟨some 43, .nilck (.t 42), none, false⟩,
                ⟨some 44, .faddr 1 (.t 43), none, false⟩,
                ⟨some 45, .load none (.t 44), none, false⟩,
                ⟨some 46, .bin .add (.t 45) (.c (.one (.v (.s (.int .i64 1))))), none, false⟩,
                ⟨some 47, .nilck (.t 42), none, false⟩,
                ⟨some 48, .faddr 1 (.t 47), none, false⟩,
                ⟨none, .store 1 (.t 48) (.t 46), none, false⟩] []) (.seq (.region [⟨some 49, .load none (.t 7), none, false⟩,
                 ⟨some 50, .bin .add (.t 49) (.c (.one (.v (.s (.int .i64 1))))), none, false⟩,
                 ⟨none, .store 1 (.t 7) (.t 50), none, false⟩] []) (.goto 0))) (.skip)))) (.skip))) (.seq (.region [⟨some 51, .build [.v (.s (.int .i64 0)), .v (.s (.string ⟨#[]⟩)), .v (.s (.int .i64 0))] [], none, false⟩,
           ⟨none, .store 3 (.t 4) (.t 51), none, false⟩,
           ⟨some 5, .mv (.c (.one (.v (.s (.bool false))))), none, false⟩] []) (.ret))))))))
def d89 : DFn := ⟨52, [.cell 4 (some 3), .t 5], c89⟩
def c90 : DCode :=
 .seq (.region [⟨some 4, .mv (.c (.one (.v (.s (.bool false))))), none, false⟩] []) (.seq (.seq (.region [⟨some 5, .mv (.t 0), none, false⟩,
      ⟨some 6, .nilck (.t 5), none, false⟩,
      ⟨some 7, .faddr 1 (.t 6), none, false⟩,
      ⟨some 8, .load none (.t 7), none, false⟩,
      ⟨some 9, .mv (.t 0), none, false⟩,
      ⟨some 10, .nilck (.t 9), none, false⟩,
      ⟨some 11, .faddr 0 (.t 10), none, false⟩,
      ⟨some 12, .load none (.t 11), none, false⟩,
      ⟨some 13, .len true (.t 12), none, false⟩,
      ⟨some 14, .bin .lss (.t 8) (.t 13), none, false⟩,
      ⟨some 15, .mv (.t 14), none, false⟩,
      ⟨some 16, .mv (.t 0), (some (15, true)), false⟩,
      ⟨some 17, .nilck (.t 16), (some (15, true)), false⟩,
      ⟨some 18, .faddr 0 (.t 17), (some (15, true)), false⟩,
      ⟨some 19, .load none (.t 18), (some (15, true)), false⟩,
      ⟨some 20, .mv (.t 0), (some (15, true)), false⟩,
      ⟨some 21, .nilck (.t 20), (some (15, true)), false⟩,
      ⟨some 22, .faddr 1 (.t 21), (some (15, true)), false⟩,
      ⟨some 23, .load none (.t 22), (some (15, true)), false⟩,
      ⟨some 24, .index (.t 19) (.t 23), (some (15, true)), false⟩,
      ⟨some 25, .mv (.t 1), (some (15, true)), false⟩,
      ⟨some 26, .bin .eql (.t 24) (.t 25), (some (15, true)), false⟩,
      ⟨some 27, .pick (.t 15) (.t 26) (.c (.one (.v (.s (.bool false))))), none, false⟩] []) (.cond (.t 27) (.seq (.region [⟨some 28, .mv (.t 0), none, false⟩,
        ⟨some 29, .nilck (.t 28), none, false⟩,
        ⟨some 30, .faddr 1 (.t 29), none, false⟩,
        ⟨some 31, .load none (.t 30), none, false⟩,
        ⟨some 32, .bin .add (.t 31) (.c (.one (.v (.s (.int .i64 1))))), none, false⟩,
        ⟨some 33, .nilck (.t 28), none, false⟩,
        ⟨some 34, .faddr 1 (.t 33), none, false⟩,
        ⟨none, .store 1 (.t 34) (.t 32), none, false⟩] []) (.seq (.region [⟨some 4, .mv (.c (.one (.v (.s (.bool true))))), none, false⟩] []) (.ret))) (.skip))) (.seq (.region [⟨some 4, .mv (.c (.one (.v (.s (.bool false))))), none, false⟩] []) (.ret)))
def d90 : DFn := ⟨35, [.t 4], c90⟩
def c91 : DCode :=
 .seq (.region [⟨some 2, .mv (.t 0), none, false⟩,
    ⟨some 3, .nilck (.t 2), none, false⟩,
    ⟨some 4, .faddr 0 (.t 3), none, false⟩,
    ⟨some 5, .load none (.t 4), none, false⟩,
    ⟨some 6, .peq false (.t 5) (.c (.one (.v (.s (.pointer none))))), none, false⟩] []) (.cond (.t 6) (.region [⟨some 7, .mv (.t 0), none, false⟩,
     ⟨some 8, .mv (.t 0), none, false⟩,
     ⟨some 9, .pcast [(87, 2, 0)] (.t 8), none, false⟩,
     ⟨some 10, .call (.c (.one (.fn (.func 110) [] []))) [(.t 9)], none, false⟩,
     ⟨some 11, .pcast [(87, 2, 0)] (.t 10), none, false⟩,
     ⟨some 12, .nilck (.t 7), none, false⟩,
     ⟨some 13, .faddr 0 (.t 12), none, false⟩,
     ⟨none, .store 1 (.t 13) (.t 11), none, false⟩] []) (.seq (.region [⟨some 14, .mv (.t 0), none, false⟩,
      ⟨some 15, .nilck (.t 14), none, false⟩,
      ⟨some 16, .faddr 0 (.t 15), none, false⟩,
      ⟨some 17, .load none (.t 16), none, false⟩,
      ⟨some 18, .mv (.t 0), none, false⟩,
      ⟨some 19, .peq true (.t 17) (.t 18), none, false⟩] []) (.cond (.t 19) (.bad) (.skip))))
def d91 : DFn := ⟨20, [], c91⟩
def c92 : DCode :=
 .seq (.region [⟨some 4, .mv (.c (.one (.v (.s (.int .i64 0))))), none, false⟩] []) (.seq (.seq (.region [⟨some 6, .mv (.t 0), none, false⟩,
      ⟨some 7, .len false (.t 6), none, false⟩,
      ⟨some 8, .mv (.c (.one (.v (.s (.int .i64 0))))), none, false⟩] []) (.block 0 (.loop (.seq (.region [⟨some 9, .bin .lss (.t 8) (.t 7), none, false⟩] []) (.seq (.cond (.t 9) (.skip) (.exit 0)) (.seq (.block 1 (.seq (.region [⟨some 10, .mv (.t 8), none, false⟩,
             ⟨some 5, .mv (.t 10), none, false⟩] []) (.seq (.region [⟨some 11, .mv (.t 1), none, false⟩,
              ⟨some 12, .mv (.t 0), none, false⟩,
              ⟨some 13, .mv (.t 5), none, false⟩,
              ⟨some 14, .iaddr 2 (.t 12) (.t 13), none, false⟩,
              ⟨some 15, .load (some 2) (.t 14), none, false⟩,
              ⟨some 16, .call (.t 11) [(.t 15)], none, false⟩] []) (.cond (.t 16) (.seq (.region [⟨some 17, .mv (.t 5), none, false⟩,
                ⟨some 4, .mv (.t 17), none, false⟩] []) (.ret)) (.skip))))) (.region [⟨some 18, .bin .add (.t 8) (.c (.one (.v (.s (.int .i64 1))))), none, false⟩,
           ⟨some 8, .mv (.t 18), none, false⟩] []))))))) (.seq (.region [⟨some 4, .mv (.c (.one (.v (.s (.int .i64 (-1)))))), none, false⟩] []) (.ret)))
def d92 : DFn := ⟨19, [.t 4], c92⟩
def c107 : DCode :=
 .seq (.region [⟨some 4, .mv (.c (.one (.esl))), none, false⟩] []) (.seq (.region [⟨some 8, .mv (.t 0), none, false⟩,
     ⟨some 9, .mv (.t 1), none, false⟩,
     ⟨some 10, .call (.c (.one (.fn (.func 71) [] []))) [(.t 8), (.t 9)], none, false⟩,
     ⟨some 5, .mv (.t 10), none, false⟩] []) (.seq (.seq (.region [⟨some 11, .mv (.t 5), none, false⟩,
       ⟨some 12, .bin .eql (.t 11) (.c (.one (.v (.s (.int .i64 (-1)))))), none, false⟩] []) (.cond (.t 12) (.seq (.region [⟨some 13, .mv (.t 0), none, false⟩,
         ⟨some 4, .mv (.t 13), none, false⟩] []) (.ret)) (.skip))) (.seq (.seq (.region [⟨some 14, .mv (.t 5), none, false⟩,
        ⟨some 15, .bin .add (.t 14) (.c (.one (.v (.s (.int .i64 1))))), none, false⟩,
        ⟨some 6, .mv (.t 15), none, false⟩] []) (.block 0 (.loop (.seq (.seq (.region [⟨some 16, .mv (.t 6), none, false⟩,
            ⟨some 17, .mv (.t 0), none, false⟩,
            ⟨some 18, .len false (.t 17), none, false⟩,
            ⟨some 19, .bin .lss (.t 16) (.t 18), none, false⟩] []) (.cond (.t 19) (.skip) (.exit 0))) (.seq (.block 1 (.seq (.region [⟨some 22, .mv (.t 0), none, false⟩,
              ⟨some 23, .mv (.t 6), none, false⟩,
              ⟨some 24, .iaddr 3 (.t 22) (.t 23), none, false⟩,
              ⟨some 25, .load (some 3) (.t 24), none, false⟩,
              ⟨some 7, .alloc 124 [.v (.s (.int .i64 0)), .v (.s (.string ⟨#[]⟩)), .v (.s (.int .i64 0))], none, false⟩,
              ⟨none, .store 3 (.t 7) (.t 25), none, false⟩] []) (.seq (.region [⟨some 26, .mv (.t 1), none, false⟩,
               ⟨some 27, .load (some 3) (.t 7), none, false⟩,
               ⟨some 28, .call (.t 26) [(.t 27)], none, false⟩,
               ⟨some 29, .un .not (.t 28), none, false⟩] []) (.cond (.t 29) (.seq (.region [⟨some 30, .mv (.t 0), none, false⟩,
                 ⟨some 31, .mv (.t 5), none, false⟩,
                 ⟨some 32, .load (some 3) (.t 7), none, false⟩,
                 ⟨some 33, .iaddr 3 (.t 30) (.t 31), none, false⟩,
                 ⟨none, .store 3 (.t 33) (.t 32), none, false⟩] []) (.region [⟨some 34, .mv (.t 5), none, false⟩,
                 ⟨some 35, .bin .add (.t 34) (.c (.one (.v (.s (.int .i64 1))))), none, false⟩,
                 ⟨some 5, .mv (.t 35), none, false⟩] [])) (.skip))))) (.region [⟨some 20, .mv (.t 6), none, false⟩,
            ⟨some 21, .bin .add (.t 20) (.c (.one (.v (.s (.int .i64 1))))), none, false⟩,
            ⟨some 6, .mv (.t 21), none, false⟩] [])))))) (.seq (.region [⟨some 36, .mv (.t 0), none, false⟩,
        ⟨some 37, .mv (.t 5), none, false⟩,
        ⟨some 38, .slice false 3 (.t 36) (some (.t 37)) none none, none, false⟩,
        ⟨none, .clear [.v (.s (.int .i64 0)), .v (.s (.string ⟨#[]⟩)), .v (.s (.int .i64 0))] (.t 38), none, false⟩] []) (.seq (.region [⟨some 39, .mv (.t 0), none, false⟩,
         ⟨some 40, .mv (.t 5), none, false⟩,
         ⟨some 41, .slice false 3 (.t 39) none (some (.t 40)) none, none, false⟩,
         ⟨some 4, .mv (.t 41), none, false⟩] []) (.ret))))))
def d107 : DFn := ⟨42, [.t 4], c107⟩
def c108 : DCode :=
 .seq (.region [⟨some 2, .box 124 (.t 0), none, false⟩,
    ⟨some 3, .mv (.c (.one (.v (.s (.bool false))))), none, false⟩] []) (.seq (.region [⟨some 4, .faddr 2 (.t 2), none, false⟩,
     ⟨some 5, .load none (.t 4), none, false⟩,
     ⟨some 6, .bin .gtr (.t 5) (.c (.one (.v (.s (.int .i64 0))))), none, false⟩,
     ⟨some 7, .mv (.t 6), none, false⟩,
     ⟨some 8, .load none (.t 1), (some (7, true)), false⟩,
     ⟨some 9, .bin .eql (.t 8) (.c (.one (.v (.s (.int .i64 1))))), (some (7, true)), false⟩,
     ⟨some 10, .pick (.t 7) (.t 9) (.c (.one (.v (.s (.bool false))))), none, false⟩,
     ⟨some 3, .mv (.t 10), none, false⟩] []) (.ret))
def d108 : DFn := ⟨11, [.t 3], c108⟩
def c109 : DCode :=
 .seq (.region [⟨some 3, .box 124 (.t 0), none, false⟩,
    ⟨some 4, .mv (.c (.one (.v (.s (.bool false))))), none, false⟩] []) (.seq (.region [⟨some 5, .faddr 1 (.t 3), none, false⟩,
     ⟨some 6, .load none (.t 5), none, false⟩,
     ⟨some 7, .load none (.t 1), none, false⟩,
     ⟨some 8, .index (.t 6) (.t 7), none, false⟩,
     ⟨some 9, .load none (.t 2), none, false⟩,
     ⟨some 10, .nilck (.t 9), none, false⟩,
     ⟨some 11, .faddr 0 (.t 10), none, false⟩,
     ⟨some 12, .load none (.t 11), none, false⟩,
     ⟨some 13, .load none (.t 2), none, false⟩,
     ⟨some 14, .nilck (.t 13), none, false⟩,
     ⟨some 15, .faddr 1 (.t 14), none, false⟩,
     ⟨some 16, .load none (.t 15), none, false⟩,
     ⟨some 17, .index (.t 12) (.t 16), none, false⟩,
     ⟨some 18, .bin .neq (.t 8) (.t 17), none, false⟩,
     ⟨some 4, .mv (.t 18), none, false⟩] []) (.ret))
def d109 : DFn := ⟨19, [.t 4], c109⟩
def fns : Nat → Option DFn
  | 3 => some d3
  | 7 => some d7
  | 8 => some d8
  | 9 => some d9
  | 10 => some d10
  | 11 => some d11
  | 12 => some d12
  | 13 => some d13
  | 14 => some d14
  | 15 => some d15
  | 16 => some d16
  | 17 => some d17
  | 18 => some d18
  | 19 => some d19
  | 20 => some d20
  | 21 => some d21
  | 36 => some d36
  | 37 => some d37
  | 38 => some d38
  | 39 => some d39
  | 40 => some d40
  | 41 => some d41
  | 42 => some d42
  | 43 => some d43
  | 44 => some d44
  | 45 => some d45
  | 46 => some d46
  | 47 => some d47
  | 66 => some d66
  | 67 => some d67
  | 68 => some d68
  | 69 => some d69
  | 70 => some d70
  | 71 => some d71
  | 72 => some d72
  | 73 => some d73
  | 74 => some d74
  | 75 => some d75
  | 76 => some d76
  | 89 => some d89
  | 90 => some d90
  | 91 => some d91
  | 92 => some d92
  | 107 => some d107
  | 108 => some d108
  | 109 => some d109
  | _ => none
end Go.Dev.KC

namespace Go.Dev.KC
open Go Go.Dev
theorem esc (v : Value) (w : World) : (callFunc 110 ⟨[v]⟩).run Go.Proofs.Try.prog w = .ok (.value v) w := by kernel_rfl
theorem mixed : Go.Proofs.Try.prog.follows .mixedOrders = true := by kernel_rfl
def ext : Ext
  | 110 => some fun | [x] => some x | _ => none
  | _ => none
def E : Env := ⟨fns, ext, fun _ => none⟩
def pol : Nat → Pol
  | 3 => ⟨[], [55], [(87, 2, 0)]⟩
  | 14 => ⟨[], [18], [(87, 2, 0)]⟩
  | 44 => ⟨[17], [], [(87, 2, 0)]⟩
  | 67 => ⟨[9], [], [(87, 2, 0)]⟩
  | 89 => ⟨[], [10], [(87, 2, 0)]⟩
  | _ => ⟨[], [], [(87, 2, 0)]⟩
set_option maxRecDepth 100000
theorem tie3 : cFn Go.Proofs.Try.prog (pol 3) Go.Proofs.Try.f3 = some d3 := by kernel_rfl
theorem at3 : Go.Proofs.Try.prog.funcs[3]? = some Go.Proofs.Try.f3 := by kernel_rfl
theorem nm3 : (Go.Proofs.Try.f3.name == "runtime.NumGoroutine") = false := by kernel_rfl
theorem tie7 : cFn Go.Proofs.Try.prog (pol 7) Go.Proofs.Try.f7 = some d7 := by kernel_rfl
theorem at7 : Go.Proofs.Try.prog.funcs[7]? = some Go.Proofs.Try.f7 := by kernel_rfl
theorem nm7 : (Go.Proofs.Try.f7.name == "runtime.NumGoroutine") = false := by kernel_rfl
theorem tie8 : cFn Go.Proofs.Try.prog (pol 8) Go.Proofs.Try.f8 = some d8 := by kernel_rfl
theorem at8 : Go.Proofs.Try.prog.funcs[8]? = some Go.Proofs.Try.f8 := by kernel_rfl
theorem nm8 : (Go.Proofs.Try.f8.name == "runtime.NumGoroutine") = false := by kernel_rfl
theorem tie9 : cFn Go.Proofs.Try.prog (pol 9) Go.Proofs.Try.f9 = some d9 := by kernel_rfl
theorem at9 : Go.Proofs.Try.prog.funcs[9]? = some Go.Proofs.Try.f9 := by kernel_rfl
theorem nm9 : (Go.Proofs.Try.f9.name == "runtime.NumGoroutine") = false := by kernel_rfl
theorem tie10 : cFn Go.Proofs.Try.prog (pol 10) Go.Proofs.Try.f10 = some d10 := by kernel_rfl
theorem at10 : Go.Proofs.Try.prog.funcs[10]? = some Go.Proofs.Try.f10 := by kernel_rfl
theorem nm10 : (Go.Proofs.Try.f10.name == "runtime.NumGoroutine") = false := by kernel_rfl
theorem tie11 : cFn Go.Proofs.Try.prog (pol 11) Go.Proofs.Try.f11 = some d11 := by kernel_rfl
theorem at11 : Go.Proofs.Try.prog.funcs[11]? = some Go.Proofs.Try.f11 := by kernel_rfl
theorem nm11 : (Go.Proofs.Try.f11.name == "runtime.NumGoroutine") = false := by kernel_rfl
theorem tie12 : cFn Go.Proofs.Try.prog (pol 12) Go.Proofs.Try.f12 = some d12 := by kernel_rfl
theorem at12 : Go.Proofs.Try.prog.funcs[12]? = some Go.Proofs.Try.f12 := by kernel_rfl
theorem nm12 : (Go.Proofs.Try.f12.name == "runtime.NumGoroutine") = false := by kernel_rfl
theorem tie13 : cFn Go.Proofs.Try.prog (pol 13) Go.Proofs.Try.f13 = some d13 := by kernel_rfl
theorem at13 : Go.Proofs.Try.prog.funcs[13]? = some Go.Proofs.Try.f13 := by kernel_rfl
theorem nm13 : (Go.Proofs.Try.f13.name == "runtime.NumGoroutine") = false := by kernel_rfl
theorem tie14 : cFn Go.Proofs.Try.prog (pol 14) Go.Proofs.Try.f14 = some d14 := by kernel_rfl
theorem at14 : Go.Proofs.Try.prog.funcs[14]? = some Go.Proofs.Try.f14 := by kernel_rfl
theorem nm14 : (Go.Proofs.Try.f14.name == "runtime.NumGoroutine") = false := by kernel_rfl
theorem tie15 : cFn Go.Proofs.Try.prog (pol 15) Go.Proofs.Try.f15 = some d15 := by kernel_rfl
theorem at15 : Go.Proofs.Try.prog.funcs[15]? = some Go.Proofs.Try.f15 := by kernel_rfl
theorem nm15 : (Go.Proofs.Try.f15.name == "runtime.NumGoroutine") = false := by kernel_rfl
theorem tie16 : cFn Go.Proofs.Try.prog (pol 16) Go.Proofs.Try.f16 = some d16 := by kernel_rfl
theorem at16 : Go.Proofs.Try.prog.funcs[16]? = some Go.Proofs.Try.f16 := by kernel_rfl
theorem nm16 : (Go.Proofs.Try.f16.name == "runtime.NumGoroutine") = false := by kernel_rfl
theorem tie17 : cFn Go.Proofs.Try.prog (pol 17) Go.Proofs.Try.f17 = some d17 := by kernel_rfl
theorem at17 : Go.Proofs.Try.prog.funcs[17]? = some Go.Proofs.Try.f17 := by kernel_rfl
theorem nm17 : (Go.Proofs.Try.f17.name == "runtime.NumGoroutine") = false := by kernel_rfl
theorem tie18 : cFn Go.Proofs.Try.prog (pol 18) Go.Proofs.Try.f18 = some d18 := by kernel_rfl
theorem at18 : Go.Proofs.Try.prog.funcs[18]? = some Go.Proofs.Try.f18 := by kernel_rfl
theorem nm18 : (Go.Proofs.Try.f18.name == "runtime.NumGoroutine") = false := by kernel_rfl
theorem tie19 : cFn Go.Proofs.Try.prog (pol 19) Go.Proofs.Try.f19 = some d19 := by kernel_rfl
theorem at19 : Go.Proofs.Try.prog.funcs[19]? = some Go.Proofs.Try.f19 := by kernel_rfl
theorem nm19 : (Go.Proofs.Try.f19.name == "runtime.NumGoroutine") = false := by kernel_rfl
theorem tie20 : cFn Go.Proofs.Try.prog (pol 20) Go.Proofs.Try.f20 = some d20 := by kernel_rfl
theorem at20 : Go.Proofs.Try.prog.funcs[20]? = some Go.Proofs.Try.f20 := by kernel_rfl
theorem nm20 : (Go.Proofs.Try.f20.name == "runtime.NumGoroutine") = false := by kernel_rfl
theorem tie21 : cFn Go.Proofs.Try.prog (pol 21) Go.Proofs.Try.f21 = some d21 := by kernel_rfl
theorem at21 : Go.Proofs.Try.prog.funcs[21]? = some Go.Proofs.Try.f21 := by kernel_rfl
theorem nm21 : (Go.Proofs.Try.f21.name == "runtime.NumGoroutine") = false := by kernel_rfl
theorem tie36 : cFn Go.Proofs.Try.prog (pol 36) Go.Proofs.Try.f36 = some d36 := by kernel_rfl
theorem at36 : Go.Proofs.Try.prog.funcs[36]? = some Go.Proofs.Try.f36 := by kernel_rfl
theorem nm36 : (Go.Proofs.Try.f36.name == "runtime.NumGoroutine") = false := by kernel_rfl
theorem tie37 : cFn Go.Proofs.Try.prog (pol 37) Go.Proofs.Try.f37 = some d37 := by kernel_rfl
theorem at37 : Go.Proofs.Try.prog.funcs[37]? = some Go.Proofs.Try.f37 := by kernel_rfl
theorem nm37 : (Go.Proofs.Try.f37.name == "runtime.NumGoroutine") = false := by kernel_rfl
theorem tie38 : cFn Go.Proofs.Try.prog (pol 38) Go.Proofs.Try.f38 = some d38 := by kernel_rfl
theorem at38 : Go.Proofs.Try.prog.funcs[38]? = some Go.Proofs.Try.f38 := by kernel_rfl
theorem nm38 : (Go.Proofs.Try.f38.name == "runtime.NumGoroutine") = false := by kernel_rfl
theorem tie39 : cFn Go.Proofs.Try.prog (pol 39) Go.Proofs.Try.f39 = some d39 := by kernel_rfl
theorem at39 : Go.Proofs.Try.prog.funcs[39]? = some Go.Proofs.Try.f39 := by kernel_rfl
theorem nm39 : (Go.Proofs.Try.f39.name == "runtime.NumGoroutine") = false := by kernel_rfl
theorem tie40 : cFn Go.Proofs.Try.prog (pol 40) Go.Proofs.Try.f40 = some d40 := by kernel_rfl
theorem at40 : Go.Proofs.Try.prog.funcs[40]? = some Go.Proofs.Try.f40 := by kernel_rfl
theorem nm40 : (Go.Proofs.Try.f40.name == "runtime.NumGoroutine") = false := by kernel_rfl
theorem tie41 : cFn Go.Proofs.Try.prog (pol 41) Go.Proofs.Try.f41 = some d41 := by kernel_rfl
theorem at41 : Go.Proofs.Try.prog.funcs[41]? = some Go.Proofs.Try.f41 := by kernel_rfl
theorem nm41 : (Go.Proofs.Try.f41.name == "runtime.NumGoroutine") = false := by kernel_rfl
theorem tie42 : cFn Go.Proofs.Try.prog (pol 42) Go.Proofs.Try.f42 = some d42 := by kernel_rfl
theorem at42 : Go.Proofs.Try.prog.funcs[42]? = some Go.Proofs.Try.f42 := by kernel_rfl
theorem nm42 : (Go.Proofs.Try.f42.name == "runtime.NumGoroutine") = false := by kernel_rfl
theorem tie43 : cFn Go.Proofs.Try.prog (pol 43) Go.Proofs.Try.f43 = some d43 := by kernel_rfl
theorem at43 : Go.Proofs.Try.prog.funcs[43]? = some Go.Proofs.Try.f43 := by kernel_rfl
theorem nm43 : (Go.Proofs.Try.f43.name == "runtime.NumGoroutine") = false := by kernel_rfl
theorem tie44 : cFn Go.Proofs.Try.prog (pol 44) Go.Proofs.Try.f44 = some d44 := by kernel_rfl
theorem at44 : Go.Proofs.Try.prog.funcs[44]? = some Go.Proofs.Try.f44 := by kernel_rfl
theorem nm44 : (Go.Proofs.Try.f44.name == "runtime.NumGoroutine") = false := by kernel_rfl
theorem tie45 : cFn Go.Proofs.Try.prog (pol 45) Go.Proofs.Try.f45 = some d45 := by kernel_rfl
theorem at45 : Go.Proofs.Try.prog.funcs[45]? = some Go.Proofs.Try.f45 := by kernel_rfl
theorem nm45 : (Go.Proofs.Try.f45.name == "runtime.NumGoroutine") = false := by kernel_rfl
theorem tie46 : cFn Go.Proofs.Try.prog (pol 46) Go.Proofs.Try.f46 = some d46 := by kernel_rfl
theorem at46 : Go.Proofs.Try.prog.funcs[46]? = some Go.Proofs.Try.f46 := by kernel_rfl
theorem nm46 : (Go.Proofs.Try.f46.name == "runtime.NumGoroutine") = false := by kernel_rfl
theorem tie47 : cFn Go.Proofs.Try.prog (pol 47) Go.Proofs.Try.f47 = some d47 := by kernel_rfl
theorem at47 : Go.Proofs.Try.prog.funcs[47]? = some Go.Proofs.Try.f47 := by kernel_rfl
theorem nm47 : (Go.Proofs.Try.f47.name == "runtime.NumGoroutine") = false := by kernel_rfl
theorem tie66 : cFn Go.Proofs.Try.prog (pol 66) Go.Proofs.Try.f66 = some d66 := by kernel_rfl
theorem at66 : Go.Proofs.Try.prog.funcs[66]? = some Go.Proofs.Try.f66 := by kernel_rfl
theorem nm66 : (Go.Proofs.Try.f66.name == "runtime.NumGoroutine") = false := by kernel_rfl
theorem tie67 : cFn Go.Proofs.Try.prog (pol 67) Go.Proofs.Try.f67 = some d67 := by kernel_rfl
theorem at67 : Go.Proofs.Try.prog.funcs[67]? = some Go.Proofs.Try.f67 := by kernel_rfl
theorem nm67 : (Go.Proofs.Try.f67.name == "runtime.NumGoroutine") = false := by kernel_rfl
theorem tie68 : cFn Go.Proofs.Try.prog (pol 68) Go.Proofs.Try.f68 = some d68 := by kernel_rfl
theorem at68 : Go.Proofs.Try.prog.funcs[68]? = some Go.Proofs.Try.f68 := by kernel_rfl
theorem nm68 : (Go.Proofs.Try.f68.name == "runtime.NumGoroutine") = false := by kernel_rfl
theorem tie69 : cFn Go.Proofs.Try.prog (pol 69) Go.Proofs.Try.f69 = some d69 := by kernel_rfl
theorem at69 : Go.Proofs.Try.prog.funcs[69]? = some Go.Proofs.Try.f69 := by kernel_rfl
theorem nm69 : (Go.Proofs.Try.f69.name == "runtime.NumGoroutine") = false := by kernel_rfl
theorem tie70 : cFn Go.Proofs.Try.prog (pol 70) Go.Proofs.Try.f70 = some d70 := by kernel_rfl
theorem at70 : Go.Proofs.Try.prog.funcs[70]? = some Go.Proofs.Try.f70 := by kernel_rfl
theorem nm70 : (Go.Proofs.Try.f70.name == "runtime.NumGoroutine") = false := by kernel_rfl
theorem tie71 : cFn Go.Proofs.Try.prog (pol 71) Go.Proofs.Try.f71 = some d71 := by kernel_rfl
theorem at71 : Go.Proofs.Try.prog.funcs[71]? = some Go.Proofs.Try.f71 := by kernel_rfl
theorem nm71 : (Go.Proofs.Try.f71.name == "runtime.NumGoroutine") = false := by kernel_rfl
theorem tie72 : cFn Go.Proofs.Try.prog (pol 72) Go.Proofs.Try.f72 = some d72 := by kernel_rfl
theorem at72 : Go.Proofs.Try.prog.funcs[72]? = some Go.Proofs.Try.f72 := by kernel_rfl
theorem nm72 : (Go.Proofs.Try.f72.name == "runtime.NumGoroutine") = false := by kernel_rfl
theorem tie73 : cFn Go.Proofs.Try.prog (pol 73) Go.Proofs.Try.f73 = some d73 := by kernel_rfl
theorem at73 : Go.Proofs.Try.prog.funcs[73]? = some Go.Proofs.Try.f73 := by kernel_rfl
theorem nm73 : (Go.Proofs.Try.f73.name == "runtime.NumGoroutine") = false := by kernel_rfl
theorem tie74 : cFn Go.Proofs.Try.prog (pol 74) Go.Proofs.Try.f74 = some d74 := by kernel_rfl
theorem at74 : Go.Proofs.Try.prog.funcs[74]? = some Go.Proofs.Try.f74 := by kernel_rfl
theorem nm74 : (Go.Proofs.Try.f74.name == "runtime.NumGoroutine") = false := by kernel_rfl
theorem tie75 : cFn Go.Proofs.Try.prog (pol 75) Go.Proofs.Try.f75 = some d75 := by kernel_rfl
theorem at75 : Go.Proofs.Try.prog.funcs[75]? = some Go.Proofs.Try.f75 := by kernel_rfl
theorem nm75 : (Go.Proofs.Try.f75.name == "runtime.NumGoroutine") = false := by kernel_rfl
theorem tie76 : cFn Go.Proofs.Try.prog (pol 76) Go.Proofs.Try.f76 = some d76 := by kernel_rfl
theorem at76 : Go.Proofs.Try.prog.funcs[76]? = some Go.Proofs.Try.f76 := by kernel_rfl
theorem nm76 : (Go.Proofs.Try.f76.name == "runtime.NumGoroutine") = false := by kernel_rfl
theorem tie89 : cFn Go.Proofs.Try.prog (pol 89) Go.Proofs.Try.f89 = some d89 := by kernel_rfl
theorem at89 : Go.Proofs.Try.prog.funcs[89]? = some Go.Proofs.Try.f89 := by kernel_rfl
theorem nm89 : (Go.Proofs.Try.f89.name == "runtime.NumGoroutine") = false := by kernel_rfl
theorem tie90 : cFn Go.Proofs.Try.prog (pol 90) Go.Proofs.Try.f90 = some d90 := by kernel_rfl
theorem at90 : Go.Proofs.Try.prog.funcs[90]? = some Go.Proofs.Try.f90 := by kernel_rfl
theorem nm90 : (Go.Proofs.Try.f90.name == "runtime.NumGoroutine") = false := by kernel_rfl
theorem tie91 : cFn Go.Proofs.Try.prog (pol 91) Go.Proofs.Try.f91 = some d91 := by kernel_rfl
theorem at91 : Go.Proofs.Try.prog.funcs[91]? = some Go.Proofs.Try.f91 := by kernel_rfl
theorem nm91 : (Go.Proofs.Try.f91.name == "runtime.NumGoroutine") = false := by kernel_rfl
theorem tie92 : cFn Go.Proofs.Try.prog (pol 92) Go.Proofs.Try.f92 = some d92 := by kernel_rfl
theorem at92 : Go.Proofs.Try.prog.funcs[92]? = some Go.Proofs.Try.f92 := by kernel_rfl
theorem nm92 : (Go.Proofs.Try.f92.name == "runtime.NumGoroutine") = false := by kernel_rfl
theorem tie107 : cFn Go.Proofs.Try.prog (pol 107) Go.Proofs.Try.f107 = some d107 := by kernel_rfl
theorem at107 : Go.Proofs.Try.prog.funcs[107]? = some Go.Proofs.Try.f107 := by kernel_rfl
theorem nm107 : (Go.Proofs.Try.f107.name == "runtime.NumGoroutine") = false := by kernel_rfl
theorem tie108 : cFn Go.Proofs.Try.prog (pol 108) Go.Proofs.Try.f108 = some d108 := by kernel_rfl
theorem at108 : Go.Proofs.Try.prog.funcs[108]? = some Go.Proofs.Try.f108 := by kernel_rfl
theorem nm108 : (Go.Proofs.Try.f108.name == "runtime.NumGoroutine") = false := by kernel_rfl
theorem tie109 : cFn Go.Proofs.Try.prog (pol 109) Go.Proofs.Try.f109 = some d109 := by kernel_rfl
theorem at109 : Go.Proofs.Try.prog.funcs[109]? = some Go.Proofs.Try.f109 := by kernel_rfl
theorem nm109 : (Go.Proofs.Try.f109.name == "runtime.NumGoroutine") = false := by kernel_rfl
theorem one {f : Nat} {fn : Func} {d : DFn} (h1 : Go.Proofs.Try.prog.funcs[f]? = some fn) (h2 : (fn.name == "runtime.NumGoroutine") = false) (h3 : cFn Go.Proofs.Try.prog (pol f) fn = some d) :
    ∃ fn body, Go.Proofs.Try.prog.funcs[f]? = some fn ∧ fn.body = some body ∧ (fn.name == "runtime.NumGoroutine") = false ∧ cFn Go.Proofs.Try.prog (pol f) fn = some d := by
  obtain ⟨b, hb, _⟩ := cFn_inv h3
  exact ⟨fn, b, h1, hb, h2, h3⟩
theorem laid : Laid Go.Proofs.Try.prog pol E where
  ext := fun f p hp args t ht c vs hr => by
    simp only [E, ext] at hp
    split at hp
    · simp only [Option.some.injEq] at hp
      subst hp
      match args, vs, hr with
      | [x], [v], hr =>
        simp only [Option.some.injEq] at ht
        subst ht
        simp only [RelTs] at hr
        exact ⟨v, esc v c.w, hr.1⟩
      | [], vs, hr => simp at ht
      | _ :: _ :: _, vs, hr => simp at ht
      | [x], [], hr => simp [RelTs] at hr
      | [x], _ :: _ :: _, hr => simp [RelTs] at hr
    · cases hp
  mixed := mixed
  fns := fun f d hd => by
    simp only [E, fns] at hd
    split at hd
    · simp only [Option.some.injEq] at hd; subst hd; exact one at3 nm3 tie3
    · simp only [Option.some.injEq] at hd; subst hd; exact one at7 nm7 tie7
    · simp only [Option.some.injEq] at hd; subst hd; exact one at8 nm8 tie8
    · simp only [Option.some.injEq] at hd; subst hd; exact one at9 nm9 tie9
    · simp only [Option.some.injEq] at hd; subst hd; exact one at10 nm10 tie10
    · simp only [Option.some.injEq] at hd; subst hd; exact one at11 nm11 tie11
    · simp only [Option.some.injEq] at hd; subst hd; exact one at12 nm12 tie12
    · simp only [Option.some.injEq] at hd; subst hd; exact one at13 nm13 tie13
    · simp only [Option.some.injEq] at hd; subst hd; exact one at14 nm14 tie14
    · simp only [Option.some.injEq] at hd; subst hd; exact one at15 nm15 tie15
    · simp only [Option.some.injEq] at hd; subst hd; exact one at16 nm16 tie16
    · simp only [Option.some.injEq] at hd; subst hd; exact one at17 nm17 tie17
    · simp only [Option.some.injEq] at hd; subst hd; exact one at18 nm18 tie18
    · simp only [Option.some.injEq] at hd; subst hd; exact one at19 nm19 tie19
    · simp only [Option.some.injEq] at hd; subst hd; exact one at20 nm20 tie20
    · simp only [Option.some.injEq] at hd; subst hd; exact one at21 nm21 tie21
    · simp only [Option.some.injEq] at hd; subst hd; exact one at36 nm36 tie36
    · simp only [Option.some.injEq] at hd; subst hd; exact one at37 nm37 tie37
    · simp only [Option.some.injEq] at hd; subst hd; exact one at38 nm38 tie38
    · simp only [Option.some.injEq] at hd; subst hd; exact one at39 nm39 tie39
    · simp only [Option.some.injEq] at hd; subst hd; exact one at40 nm40 tie40
    · simp only [Option.some.injEq] at hd; subst hd; exact one at41 nm41 tie41
    · simp only [Option.some.injEq] at hd; subst hd; exact one at42 nm42 tie42
    · simp only [Option.some.injEq] at hd; subst hd; exact one at43 nm43 tie43
    · simp only [Option.some.injEq] at hd; subst hd; exact one at44 nm44 tie44
    · simp only [Option.some.injEq] at hd; subst hd; exact one at45 nm45 tie45
    · simp only [Option.some.injEq] at hd; subst hd; exact one at46 nm46 tie46
    · simp only [Option.some.injEq] at hd; subst hd; exact one at47 nm47 tie47
    · simp only [Option.some.injEq] at hd; subst hd; exact one at66 nm66 tie66
    · simp only [Option.some.injEq] at hd; subst hd; exact one at67 nm67 tie67
    · simp only [Option.some.injEq] at hd; subst hd; exact one at68 nm68 tie68
    · simp only [Option.some.injEq] at hd; subst hd; exact one at69 nm69 tie69
    · simp only [Option.some.injEq] at hd; subst hd; exact one at70 nm70 tie70
    · simp only [Option.some.injEq] at hd; subst hd; exact one at71 nm71 tie71
    · simp only [Option.some.injEq] at hd; subst hd; exact one at72 nm72 tie72
    · simp only [Option.some.injEq] at hd; subst hd; exact one at73 nm73 tie73
    · simp only [Option.some.injEq] at hd; subst hd; exact one at74 nm74 tie74
    · simp only [Option.some.injEq] at hd; subst hd; exact one at75 nm75 tie75
    · simp only [Option.some.injEq] at hd; subst hd; exact one at76 nm76 tie76
    · simp only [Option.some.injEq] at hd; subst hd; exact one at89 nm89 tie89
    · simp only [Option.some.injEq] at hd; subst hd; exact one at90 nm90 tie90
    · simp only [Option.some.injEq] at hd; subst hd; exact one at91 nm91 tie91
    · simp only [Option.some.injEq] at hd; subst hd; exact one at92 nm92 tie92
    · simp only [Option.some.injEq] at hd; subst hd; exact one at107 nm107 tie107
    · simp only [Option.some.injEq] at hd; subst hd; exact one at108 nm108 tie108
    · simp only [Option.some.injEq] at hd; subst hd; exact one at109 nm109 tie109
    · cases hd
  prim := fun f p hp => by simp [E] at hp
end Go.Dev.KC
