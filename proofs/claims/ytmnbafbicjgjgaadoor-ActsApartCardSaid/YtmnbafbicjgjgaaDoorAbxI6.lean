/- The intermediate code of functions, printed by a program out of the translation. -/
import Derived.Test.YtmnbafbicjgjgaaDoorAbxS
namespace Go.Abx
set_option maxRecDepth 100000

def e_strconv_Itoa : FEnt := .pure false itoaS
def e_internal_bytealg_MakeNoZero : FEnt := .pure true makeNoZeroS

/- slices.Clip[[]byte,byte]: number 7 -/
def i_slices_Clip_byte_byte : IFun := { ntmps := 9, results := [.tmp 2], body := 
  (.seq 
    (.ops [.op none (some 2) (.mv (.c .nilsl))]) 
    (.seq 
      (.ops [.op none (some 3) (.mv (.t 0)),
        .op none (some 4) (.mv (.t 0)),
        .op none (some 5) (.len .slice (.t 4)),
        .op none (some 6) (.mv (.t 0)),
        .op none (some 7) (.len .slice (.t 6)),
        .op none (some 8) (.slice false 1 (.t 3) none (some (.t 5)) (some (.t 7))),
        .op none (some 2) (.mv (.t 8))]) .ret)) }
def v_slices_Clip_byte_byte : Env := []
def e_slices_Clip_byte_byte : FEnt := .raw (runRaw v_slices_Clip_byte_byte i_slices_Clip_byte_byte)

/- slices.Clone[[]byte,byte]: number 6 -/
def i_slices_Clone_byte_byte : IFun := { ntmps := 8, results := [.tmp 2], body := 
  (.seq 
    (.ops [.op none (some 2) (.mv (.c .nilsl))]) 
    (.seq 
      (.seq 
        (.ops [.op none (some 3) (.mv (.t 0)),
          .op none (some 4) (.bin .eql .slice (.t 3) (.c .nilsl))]) 
        (.cond (.t 4) 
          (.seq 
            (.ops [.op none (some 2) (.mv (.c .nilsl))]) .ret) .skip)) 
      (.seq 
        (.ops [.op none (some 5) (.buildSlice (.int .u8 0) 1 0 []),
          .op none (some 6) (.mv (.t 0)),
          .op none (some 7) (.append 1 1 (.t 5) (.t 6)),
          .op none (some 2) (.mv (.t 7))]) .ret))) }
def v_slices_Clone_byte_byte : Env := []
def e_slices_Clone_byte_byte : FEnt := .pure true (runOwn v_slices_Clone_byte_byte i_slices_Clone_byte_byte)

/- fettle/code.Num: number 4 -/
def i_code_Num : IFun := { ntmps := 26, results := [.tmp 4], body := 
  (.seq 
    (.ops [.op none (some 4) (.mv (.c .nilsl))]) 
    (.seq 
      (.ops [.op none (some 7) (.mv (.t 1)),
        .op none (some 8) (.max (.t 7) (.c (.int .i64 0))),
        .op none (some 9) (.min (.t 8) (.c (.int .i64 1099511627776))),
        .op none (some 1) (.mv (.t 9))]) 
      (.seq 
        (.ops [.op none (some 10) (.mv (.t 0)),
          .op none (some 11) (.call 6 .own [(.t 10)]),
          .op none (some 12) (.call 7 .raw [(.t 11)]),
          .op none (some 5) (.mv (.t 12))]) 
        (.seq 
          (.seq 
            (.ops [.op none (some 6) (.mv (.c (.int .i64 5)))]) 
            (.block 0 
              (.loop 
                (.seq 
                  (.seq 
                    (.ops [.op none (some 13) (.mv (.t 6)),
                      .op none (some 14) (.bin .geq .int (.t 13) (.c (.int .i64 0)))]) 
                    (.cond (.t 14) .skip (.exit 0))) 
                  (.seq 
                    (.block 1 
                      (.ops [.op none (some 17) (.mv (.t 5)),
                        .op none (some 18) (.mv (.t 1)),
                        .op none (some 19) (.mv (.t 6)),
                        .op none (some 20) (.bin .mul .int (.c (.int .i64 8)) (.t 19)),
                        .op none (some 21) (.bin .shr .int (.t 18) (.t 20)),
                        .op none (some 22) (.conv (.int .u8) (.t 21)),
                        .op none (some 23) (.buildSlice (.int .u8 0) 1 1 [(0, (.t 22))]),
                        .op none (some 24) (.append 1 1 (.t 17) (.t 23)),
                        .op none (some 5) (.mv (.t 24))])) 
                    (.ops [.op none (some 15) (.mv (.t 6)),
                      .op none (some 16) (.bin .sub .int (.t 15) (.c (.int .i64 1))),
                      .op none (some 6) (.mv (.t 16))])))))) 
          (.seq 
            (.ops [.op none (some 25) (.mv (.t 5)),
              .op none (some 4) (.mv (.t 25))]) .ret))))) }
def v_code_Num : Env := [(7, e_slices_Clip_byte_byte), (6, e_slices_Clone_byte_byte)]
def e_code_Num : FEnt := .pure true (runOwn v_code_Num i_code_Num)

/- fettle/code.Bytes: number 5 -/
def i_code_Bytes : IFun := { ntmps := 11, results := [.tmp 4], body := 
  (.seq 
    (.ops [.op none (some 4) (.mv (.c .nilsl))]) 
    (.seq 
      (.ops [.op none (some 5) (.mv (.t 0)),
        .op none (some 6) (.mv (.t 1)),
        .op none (some 7) (.len .slice (.t 6)),
        .op none (some 8) (.call 4 .own [(.t 5), (.t 7)]),
        .op none (some 9) (.mv (.t 1)),
        .op none (some 10) (.append 1 1 (.t 8) (.t 9)),
        .op none (some 4) (.mv (.t 10))]) .ret)) }
def v_code_Bytes : Env := [(4, e_code_Num)]
def e_code_Bytes : FEnt := .pure true (runOwn v_code_Bytes i_code_Bytes)

/- fettle/acts.Bytes: number 1 -/
def i_acts_Bytes : IFun := { ntmps := 28, results := [.tmp 2], body := 
  (.seq 
    (.ops [.op none (some 2) (.mv (.c .nilsl))]) 
    (.seq 
      (.ops [.op none (some 6) (.mv (.t 0)),
        .op none (some 7) (.len .slice (.t 6)),
        .op none (some 8) (.call 4 .own [(.c .nilsl), (.t 7)]),
        .op none (some 3) (.mv (.t 8))]) 
      (.seq 
        (.seq 
          (.ops [.op none (some 9) (.mv (.t 0)),
            .op none (some 10) (.len .slice (.t 9)),
            .op none (some 11) (.mv (.c (.int .i64 0)))]) 
          (.block 0 
            (.loop 
              (.seq 
                (.ops [.op none (some 12) (.bin .lss .int (.t 11) (.t 10))]) 
                (.seq 
                  (.cond (.t 12) .skip (.exit 0)) 
                  (.seq 
                    (.block 1 
                      (.seq 
                        (.ops [.op none (some 13) (.indexAddr none 3 (.t 9) (.t 11)),
                          .op none (some 14) (.load true 3 (.t 13)),
                          .frz 3,
                          .op none (some 5) (.alloc (.agg [(.int .i64 0), (.int .i64 0), (.str [])]) 3),
                          .op none none (.store 3 (.t 5) (.t 14)),
                          .frz 5]) 
                        (.draw [([], .op none (some 15) (.mv (.t 3))),
                          ([], .op none (some 16) (.fieldAddr 0 (.t 5))),
                          ([1], .op none (some 17) (.load false 1 (.t 16))),
                          ([0, 2], .op none (some 18) (.call 4 .pure [(.t 15), (.t 17)])),
                          ([], .op none (some 19) (.fieldAddr 1 (.t 5))),
                          ([4], .op none (some 20) (.load false 1 (.t 19))),
                          ([3, 5], .op none (some 21) (.call 4 .pure [(.t 18), (.t 20)])),
                          ([], .op none (some 22) (.fieldAddr 2 (.t 5))),
                          ([7], .op none (some 23) (.load false 1 (.t 22))),
                          ([8], .op none (some 24) (.conv .strBytes (.t 23))),
                          ([6, 9], .op none (some 25) (.call 5 .own [(.t 21), (.t 24)])),
                          ([0, 1, 2, 3, 4, 5, 6, 7, 8, 9, 10], .op none (some 3) (.mv (.t 25)))]))) 
                    (.ops [.op none (some 26) (.bin .add .int (.t 11) (.c (.int .i64 1))),
                      .op none (some 11) (.mv (.t 26))]))))))) 
        (.seq 
          (.ops [.op none (some 27) (.mv (.t 3)),
            .op none (some 2) (.mv (.t 27))]) .ret)))) }
def v_acts_Bytes : Env := [(5, e_code_Bytes), (4, e_code_Num)]
def e_acts_Bytes : FEnt := .pure true (runOwn v_acts_Bytes i_acts_Bytes)

/- fettle/fettlelaw6.Act: number 0 -/
def i_fettlelaw6_Act : IFun := { ntmps := 82, results := [.tmp 2], body := 
  (.seq 
    (.ops [.op none (some 2) (.mv (.c .nilsl))]) 
    (.seq 
      (.ops [.op none (some 3) (.mv (.c .nilsl))]) 
      (.seq 
        (.ops [.op none (some 8) (.buildSlice (.str []) 1 6 [(0, (.c (.str []))), (1, (.c (.str [97]))), (2, (.c (.str [104, 105, 32, 116, 104, 101, 114, 101]))), (3, (.c (.str [45]))), (4, (.c (.str [120, 121, 122]))), (5, (.c (.str [48, 49, 50, 51, 52, 53, 54, 55, 56, 57, 48, 49, 50, 51, 52, 53, 54, 55, 56, 57, 48, 49, 50, 51, 52, 53, 54, 55, 56, 57, 48, 49, 50, 51, 52, 53, 54, 55, 56, 57, 48, 49, 50, 51, 52, 53, 54, 55, 56, 57, 48, 49, 50, 51, 52, 53, 54, 55, 56, 57, 48, 49, 50, 51])))]),
          .op none (some 4) (.mv (.t 8))]) 
        (.seq 
          (.seq 
            (.ops [.op none (some 5) (.mv (.c (.int .i64 0)))]) 
            (.block 0 
              (.loop 
                (.seq 
                  (.seq 
                    (.ops [.op none (some 9) (.mv (.t 5)),
                      .op none (some 10) (.mv (.t 0)),
                      .op none (some 11) (.len .slice (.t 10)),
                      .op none (some 12) (.bin .lss .int (.t 9) (.t 11)),
                      .op none (some 13) (.mv (.t 12)),
                      .op (some (13, true)) (some 14) (.mv (.t 5)),
                      .op (some (13, true)) (some 15) (.bin .lss .int (.t 14) (.c (.int .i64 6))),
                      .op none (some 16) (.pick (.t 13) (.t 15) (.c (.bool false)))]) 
                    (.cond (.t 16) .skip (.exit 0))) 
                  (.seq 
                    (.block 1 
                      (.seq 
                        (.ops [.op none (some 19) (.mv (.t 0)),
                          .op none (some 20) (.mv (.t 5)),
                          .op none (some 21) (.indexAddr none 1 (.t 19) (.t 20)),
                          .op none (some 22) (.load false 1 (.t 21)),
                          .op none (some 6) (.mv (.t 22))]) 
                        (.seq 
                          (.ops [.op none (some 23) (.mv (.t 6)),
                            .op none (some 24) (.bin .and .int (.t 23) (.c (.int .i64 7))),
                            .op none (some 25) (.bin .add .int (.c (.int .i64 4)) (.t 24)),
                            .op none (some 26) (.build [(.int .i64 0), (.int .i64 0), (.str [])] [(0, 1, (.t 25))]),
                            .op none (some 7) (.alloc (.agg [(.int .i64 0), (.int .i64 0), (.str [])]) 3),
                            .op none none (.store 3 (.t 7) (.t 26))]) 
                          (.seq 
                            (.seq 
                              (.ops [.op none (some 27) (.mv (.t 5)),
                                .op none (some 28) (.bin .eql .int (.t 27) (.c (.int .i64 0)))]) 
                              (.cond (.t 28) 
                                (.ops [.op none (some 29) (.mv (.t 6)),
                                  .op none (some 30) (.bin .and .int (.t 29) (.c (.int .i64 255))),
                                  .op none (some 31) (.bin .rem .int (.t 30) (.c (.int .i64 3))),
                                  .op none (some 32) (.bin .add .int (.c (.int .i64 1)) (.t 31)),
                                  .op none (some 33) (.fieldAddr 0 (.t 7)),
                                  .op none none (.store 1 (.t 33) (.t 32))]) .skip)) 
                            (.seq 
                              (.seq 
                                (.ops [.op none (some 34) (.fieldAddr 0 (.t 7)),
                                  .op none (some 35) (.load false 1 (.t 34)),
                                  .op none (some 36) (.bin .eql .int (.t 35) (.c (.int .i64 11))),
                                  .op none (some 37) (.mv (.t 36)),
                                  .op (some (37, true)) (some 38) (.mv (.t 6)),
                                  .op (some (37, true)) (some 39) (.bin .shr .int (.t 38) (.c (.int .u64 8))),
                                  .op (some (37, true)) (some 40) (.bin .and .int (.t 39) (.c (.int .i64 3))),
                                  .op (some (37, true)) (some 41) (.bin .gtr .int (.t 40) (.c (.int .i64 0))),
                                  .op none (some 42) (.pick (.t 37) (.t 41) (.c (.bool false)))]) 
                                (.cond (.t 42) 
                                  (.ops [.op none (some 43) (.fieldAddr 0 (.t 7)),
                                    .op none none (.store 1 (.t 43) (.c (.int .i64 6)))]) .skip)) 
                              (.seq 
                                (.seq 
                                  (.ops [.op none (some 44) (.fieldAddr 0 (.t 7)),
                                    .op none (some 45) (.load false 1 (.t 44))]) 
                                  (.block 2 
                                    (.seq 
                                      (.seq 
                                        (.ops [.op none (some 47) (.bin .eql .int (.t 45) (.c (.int .i64 1))),
                                          .op none (some 46) (.mv (.t 47))]) 
                                        (.cond (.t 46) .skip 
                                          (.ops [.op none (some 48) (.bin .eql .int (.t 45) (.c (.int .i64 10))),
                                            .op none (some 46) (.mv (.t 48))]))) 
                                      (.cond (.t 46) 
                                        (.ops [.op none (some 49) (.mv (.t 4)),
                                          .op none (some 50) (.mv (.t 6)),
                                          .op none (some 51) (.bin .shr .int (.t 50) (.c (.int .u64 10))),
                                          .op none (some 52) (.bin .and .int (.t 51) (.c (.int .i64 255))),
                                          .op none (some 53) (.mv (.t 4)),
                                          .op none (some 54) (.len .slice (.t 53)),
                                          .op none (some 55) (.bin .rem .int (.t 52) (.t 54)),
                                          .op none (some 56) (.indexAddr none 1 (.t 49) (.t 55)),
                                          .op none (some 57) (.load false 1 (.t 56)),
                                          .op none (some 58) (.fieldAddr 2 (.t 7)),
                                          .op none none (.store 1 (.t 58) (.t 57))]) 
                                        (.seq 
                                          (.ops [.op none (some 60) (.bin .eql .int (.t 45) (.c (.int .i64 2))),
                                            .op none (some 59) (.mv (.t 60))]) 
                                          (.cond (.t 59) 
                                            (.ops [.op none (some 61) (.mv (.t 6)),
                                              .op none (some 62) (.bin .shr .int (.t 61) (.c (.int .u64 10))),
                                              .op none (some 63) (.bin .and .int (.t 62) (.c (.int .i64 3))),
                                              .op none (some 64) (.fieldAddr 1 (.t 7)),
                                              .op none none (.store 1 (.t 64) (.t 63))]) 
                                            (.seq 
                                              (.seq 
                                                (.ops [.op none (some 66) (.bin .eql .int (.t 45) (.c (.int .i64 7))),
                                                  .op none (some 65) (.mv (.t 66))]) 
                                                (.cond (.t 65) .skip 
                                                  (.ops [.op none (some 67) (.bin .eql .int (.t 45) (.c (.int .i64 8))),
                                                    .op none (some 65) (.mv (.t 67))]))) 
                                              (.cond (.t 65) 
                                                (.ops [.op none (some 68) (.mv (.t 6)),
                                                  .op none (some 69) (.bin .shr .int (.t 68) (.c (.int .u64 10))),
                                                  .op none (some 70) (.bin .and .int (.t 69) (.c (.int .i64 31))),
                                                  .op none (some 71) (.fieldAddr 1 (.t 7)),
                                                  .op none none (.store 1 (.t 71) (.t 70))]) .skip)))))))) 
                                (.ops [.op none (some 72) (.mv (.t 3)),
                                  .op none (some 73) (.load true 3 (.t 7)),
                                  .op none (some 74) (.buildSlice (.agg [(.int .i64 0), (.int .i64 0), (.str [])]) 3 1 [(0, (.t 73))]),
                                  .op none (some 75) (.append 3 32 (.t 72) (.t 74)),
                                  .op none (some 3) (.mv (.t 75))]))))))) 
                    (.ops [.op none (some 17) (.mv (.t 5)),
                      .op none (some 18) (.bin .add .int (.t 17) (.c (.int .i64 1))),
                      .op none (some 5) (.mv (.t 18))])))))) 
          (.seq 
            (.seq 
              (.ops [.op none (some 76) (.mv (.t 3)),
                .op none (some 77) (.len .slice (.t 76)),
                .op none (some 78) (.bin .eql .int (.t 77) (.c (.int .i64 0)))]) 
              (.cond (.t 78) 
                (.ops [.op none (some 79) (.build [(.int .i64 0), (.int .i64 0), (.str [])] [(0, 1, (.c (.int .i64 3)))]),
                  .op none (some 80) (.buildSlice (.agg [(.int .i64 0), (.int .i64 0), (.str [])]) 3 1 [(0, (.t 79))]),
                  .op none (some 3) (.mv (.t 80))]) .skip)) 
            (.seq 
              (.ops [.op none (some 81) (.mv (.t 3)),
                .op none (some 2) (.mv (.t 81))]) .ret)))))) }
def v_fettlelaw6_Act : Env := []
def e_fettlelaw6_Act : FEnt := .pure true (runOwn v_fettlelaw6_Act i_fettlelaw6_Act)

/- fettle/acts.begins: number 12 -/
def i_acts_begins : IFun := { ntmps := 13, results := [.tmp 2], body := 
  (.seq 
    (.ops [.op none (some 2) (.mv (.c (.bool false)))]) 
    (.seq 
      (.ops [.op none (some 3) (.mv (.t 0)),
        .op none (some 4) (.bin .eql .int (.t 3) (.c (.int .i64 1))),
        .op none (some 5) (.mv (.t 4)),
        .op (some (5, false)) (some 6) (.mv (.t 0)),
        .op (some (5, false)) (some 7) (.bin .eql .int (.t 6) (.c (.int .i64 2))),
        .op none (some 8) (.pick (.t 5) (.c (.bool true)) (.t 7)),
        .op none (some 9) (.mv (.t 8)),
        .op (some (9, false)) (some 10) (.mv (.t 0)),
        .op (some (9, false)) (some 11) (.bin .eql .int (.t 10) (.c (.int .i64 3))),
        .op none (some 12) (.pick (.t 9) (.c (.bool true)) (.t 11)),
        .op none (some 2) (.mv (.t 12))]) .ret)) }
def v_acts_begins : Env := []
def e_acts_begins : FEnt := .pure false (runPure v_acts_begins i_acts_begins)

/- fettle/acts.fits: number 14 -/
def i_acts_fits : IFun := { ntmps := 29, results := [.tmp 2], body := 
  (.seq 
    (.ops [.op none (some 2) (.mv (.c (.bool false)))]) 
    (.seq 
      (.seq 
        (.ops [.op none (some 4) (.mv (.t 0)),
          .op none (some 5) (.len .str (.t 4)),
          .op none (some 6) (.mv (.c (.int .i64 0)))]) 
        (.block 0 
          (.loop 
            (.seq 
              (.ops [.op none (some 7) (.bin .lss .int (.t 6) (.t 5))]) 
              (.seq 
                (.cond (.t 7) .skip (.exit 0)) 
                (.seq 
                  (.block 1 
                    (.seq 
                      (.ops [.op none (some 8) (.mv (.t 6)),
                        .op none (some 3) (.mv (.t 8))]) 
                      (.seq 
                        (.ops [.op none (some 9) (.mv (.t 0)),
                          .op none (some 10) (.mv (.t 3)),
                          .op none (some 11) (.index none (.t 9) (.t 10)),
                          .op none (some 12) (.bin .lss .int (.t 11) (.c (.int .u8 32))),
                          .op none (some 13) (.mv (.t 12)),
                          .op (some (13, false)) (some 14) (.mv (.t 0)),
                          .op (some (13, false)) (some 15) (.mv (.t 3)),
                          .op (some (13, false)) (some 16) (.index none (.t 14) (.t 15)),
                          .op (some (13, false)) (some 17) (.bin .gtr .int (.t 16) (.c (.int .u8 126))),
                          .op none (some 18) (.pick (.t 13) (.c (.bool true)) (.t 17)),
                          .op none (some 19) (.mv (.t 18)),
                          .op (some (19, false)) (some 20) (.mv (.t 0)),
                          .op (some (19, false)) (some 21) (.mv (.t 3)),
                          .op (some (19, false)) (some 22) (.index none (.t 20) (.t 21)),
                          .op (some (19, false)) (some 23) (.bin .eql .int (.t 22) (.c (.int .u8 34))),
                          .op none (some 24) (.pick (.t 19) (.c (.bool true)) (.t 23))]) 
                        (.cond (.t 24) 
                          (.seq 
                            (.ops [.op none (some 2) (.mv (.c (.bool false)))]) .ret) .skip)))) 
                  (.ops [.op none (some 25) (.bin .add .int (.t 6) (.c (.int .i64 1))),
                    .op none (some 6) (.mv (.t 25))]))))))) 
      (.seq 
        (.ops [.op none (some 26) (.mv (.t 0)),
          .op none (some 27) (.len .str (.t 26)),
          .op none (some 28) (.bin .leq .int (.t 27) (.c (.int .i64 64))),
          .op none (some 2) (.mv (.t 28))]) .ret))) }
def v_acts_fits : Env := []
def e_acts_fits : FEnt := .pure false (runPure v_acts_fits i_acts_fits)

/- fettle/acts.text: number 13 -/
def i_acts_text : IFun := { ntmps := 9, results := [.tmp 2], body := 
  (.seq 
    (.ops [.op none (some 2) (.mv (.c (.bool false)))]) 
    (.seq 
      (.ops [.op none (some 3) (.mv (.t 0)),
        .op none (some 4) (.bin .eql .int (.t 3) (.c (.int .i64 1))),
        .op none (some 5) (.mv (.t 4)),
        .op (some (5, false)) (some 6) (.mv (.t 0)),
        .op (some (5, false)) (some 7) (.bin .eql .int (.t 6) (.c (.int .i64 10))),
        .op none (some 8) (.pick (.t 5) (.c (.bool true)) (.t 7)),
        .op none (some 2) (.mv (.t 8))]) .ret)) }
def v_acts_text : Env := []
def e_acts_text : FEnt := .pure false (runPure v_acts_text i_acts_text)

/- fettle/acts.top: number 15 -/
def i_acts_top : IFun := { ntmps := 9, results := [.tmp 2], body := 
  (.seq 
    (.ops [.op none (some 2) (.mv (.c (.int .i64 0)))]) 
    (.seq 
      (.seq 
        (.ops [.op none (some 3) (.mv (.t 0))]) 
        (.block 0 
          (.seq 
            (.ops [.op none (some 5) (.bin .eql .int (.t 3) (.c (.int .i64 2))),
              .op none (some 4) (.mv (.t 5))]) 
            (.cond (.t 4) 
              (.seq 
                (.ops [.op none (some 2) (.mv (.c (.int .i64 15)))]) .ret) 
              (.seq 
                (.seq 
                  (.ops [.op none (some 7) (.bin .eql .int (.t 3) (.c (.int .i64 7))),
                    .op none (some 6) (.mv (.t 7))]) 
                  (.cond (.t 6) .skip 
                    (.ops [.op none (some 8) (.bin .eql .int (.t 3) (.c (.int .i64 8))),
                      .op none (some 6) (.mv (.t 8))]))) 
                (.cond (.t 6) 
                  (.seq 
                    (.ops [.op none (some 2) (.mv (.c (.int .i64 999)))]) .ret) .skip)))))) 
      (.seq 
        (.ops [.op none (some 2) (.mv (.c (.int .i64 (-1))))]) .ret))) }
def v_acts_top : Env := []
def e_acts_top : FEnt := .pure false (runPure v_acts_top i_acts_top)

/- fettle/acts.right: number 11 -/
def i_acts_right : IFun := { ntmps := 41, results := [.tmp 2], body := 
  (.seq 
    (.ops [.op none (some 1) (.box 3 (.t 0)),
      .op none (some 2) (.mv (.c (.bool false)))]) 
    (.seq 
      (.block 0 
        (.seq 
          (.ops [.op none (some 4) (.fieldAddr 0 (.t 1)),
            .op none (some 5) (.load false 1 (.t 4)),
            .op none (some 6) (.bin .lss .int (.t 5) (.c (.int .i64 1))),
            .op none (some 7) (.mv (.t 6)),
            .op (some (7, false)) (some 8) (.fieldAddr 0 (.t 1)),
            .op (some (7, false)) (some 9) (.load false 1 (.t 8)),
            .op (some (7, false)) (some 10) (.bin .gtr .int (.t 9) (.c (.int .i64 11))),
            .op none (some 11) (.pick (.t 7) (.c (.bool true)) (.t 10)),
            .op none (some 3) (.mv (.t 11))]) 
          (.cond (.t 3) 
            (.seq 
              (.ops [.op none (some 2) (.mv (.c (.bool false)))]) .ret) 
            (.seq 
              (.ops [.op none (some 13) (.fieldAddr 0 (.t 1)),
                .op none (some 14) (.load false 1 (.t 13)),
                .op none (some 15) (.call 13 .pure [(.t 14)]),
                .op none (some 12) (.mv (.t 15))]) 
              (.cond (.t 12) 
                (.seq 
                  (.ops [.op none (some 16) (.fieldAddr 1 (.t 1)),
                    .op none (some 17) (.load false 1 (.t 16)),
                    .op none (some 18) (.bin .eql .int (.t 17) (.c (.int .i64 0))),
                    .op none (some 19) (.mv (.t 18)),
                    .op (some (19, true)) (some 20) (.fieldAddr 2 (.t 1)),
                    .op (some (19, true)) (some 21) (.load false 1 (.t 20)),
                    .op (some (19, true)) (some 22) (.call 14 .pure [(.t 21)]),
                    .op none (some 23) (.pick (.t 19) (.t 22) (.c (.bool false))),
                    .op none (some 2) (.mv (.t 23))]) .ret) .skip))))) 
      (.seq 
        (.draw [([], .op none (some 24) (.fieldAddr 2 (.t 1))),
          ([0], .op none (some 25) (.load false 1 (.t 24))),
          ([1], .op none (some 26) (.bin .eql .str (.t 25) (.c (.str [])))),
          ([2], .op none (some 27) (.mv (.t 26))),
          ([3], .op (some (27, true)) (some 28) (.fieldAddr 1 (.t 1))),
          ([3, 4], .op (some (27, true)) (some 29) (.load false 1 (.t 28))),
          ([3, 5], .op (some (27, true)) (some 30) (.bin .geq .int (.t 29) (.c (.int .i64 0)))),
          ([3, 6], .op none (some 31) (.pick (.t 27) (.t 30) (.c (.bool false)))),
          ([3, 7], .op none (some 32) (.mv (.t 31))),
          ([8], .op (some (32, true)) (some 33) (.fieldAddr 1 (.t 1))),
          ([8, 9], .op (some (32, true)) (some 34) (.load false 1 (.t 33))),
          ([8], .op (some (32, true)) (some 35) (.fieldAddr 0 (.t 1))),
          ([8, 11], .op (some (32, true)) (some 36) (.load false 1 (.t 35))),
          ([8, 12], .op (some (32, true)) (some 37) (.call 15 .pure [(.t 36)])),
          ([8, 13], .op (some (32, true)) (some 38) (.max (.t 37) (.c (.int .i64 0)))),
          ([8, 10, 14], .op (some (32, true)) (some 39) (.bin .leq .int (.t 34) (.t 38))),
          ([8, 15], .op none (some 40) (.pick (.t 32) (.t 39) (.c (.bool false)))),
          ([0, 1, 2, 3, 4, 5, 6, 7, 8, 9, 10, 11, 12, 13, 14, 15, 16], .op none (some 2) (.mv (.t 40)))]) .ret))) }
def v_acts_right : Env := [(14, e_acts_fits), (13, e_acts_text), (15, e_acts_top)]
def e_acts_right : FEnt := .pure false (runPure v_acts_right i_acts_right)

/- fettle/acts.Ok: number 10 -/
def i_acts_Ok : IFun := { ntmps := 32, results := [.tmp 2], body := 
  (.seq 
    (.ops [.op none (some 2) (.mv (.c (.bool false)))]) 
    (.seq 
      (.seq 
        (.ops [.op none (some 5) (.mv (.t 0)),
          .op none (some 6) (.len .slice (.t 5)),
          .op none (some 7) (.mv (.c (.int .i64 0)))]) 
        (.block 0 
          (.loop 
            (.seq 
              (.ops [.op none (some 8) (.bin .lss .int (.t 7) (.t 6))]) 
              (.seq 
                (.cond (.t 8) .skip (.exit 0)) 
                (.seq 
                  (.block 1 
                    (.seq 
                      (.ops [.op none (some 9) (.mv (.t 7)),
                        .op none (some 10) (.indexAddr none 3 (.t 5) (.t 7)),
                        .op none (some 11) (.load true 3 (.t 10)),
                        .op none (some 4) (.alloc (.agg [(.int .i64 0), (.int .i64 0), (.str [])]) 3),
                        .op none (some 3) (.mv (.t 9)),
                        .op none none (.store 3 (.t 4) (.t 11)),
                        .frz 4]) 
                      (.seq 
                        (.ops [.op none (some 12) (.load true 3 (.t 4)),
                          .op none (some 13) (.call 11 .pure [(.t 12)]),
                          .op none (some 14) (.un .not (.t 13)),
                          .op none (some 15) (.mv (.t 14)),
                          .op (some (15, false)) (some 16) (.fieldAddr 0 (.t 4)),
                          .op (some (15, false)) (some 17) (.load false 1 (.t 16)),
                          .op (some (15, false)) (some 18) (.call 12 .pure [(.t 17)]),
                          .op (some (15, false)) (some 19) (.mv (.t 3)),
                          .op (some (15, false)) (some 20) (.bin .eql .int (.t 19) (.c (.int .i64 0))),
                          .op (some (15, false)) (some 21) (.bin .neq .bool (.t 18) (.t 20)),
                          .op none (some 22) (.pick (.t 15) (.c (.bool true)) (.t 21))]) 
                        (.cond (.t 22) 
                          (.seq 
                            (.ops [.op none (some 2) (.mv (.c (.bool false)))]) .ret) .skip)))) 
                  (.ops [.op none (some 23) (.bin .add .int (.t 7) (.c (.int .i64 1))),
                    .op none (some 7) (.mv (.t 23))]))))))) 
      (.seq 
        (.ops [.op none (some 24) (.mv (.t 0)),
          .op none (some 25) (.len .slice (.t 24)),
          .op none (some 26) (.bin .geq .int (.t 25) (.c (.int .i64 1))),
          .op none (some 27) (.mv (.t 26)),
          .op (some (27, true)) (some 28) (.mv (.t 0)),
          .op (some (27, true)) (some 29) (.len .slice (.t 28)),
          .op (some (27, true)) (some 30) (.bin .leq .int (.t 29) (.c (.int .i64 8))),
          .op none (some 31) (.pick (.t 27) (.t 30) (.c (.bool false))),
          .op none (some 2) (.mv (.t 31))]) .ret))) }
def v_acts_Ok : Env := [(12, e_acts_begins), (11, e_acts_right)]
def e_acts_Ok : FEnt := .pure false (runPure v_acts_Ok i_acts_Ok)

/- fettle/acts.Parse$1: number 16 -/
def i_acts_Parse_1 : IFun := { ntmps := 11, results := [.tmp 2], body := 
  (.seq 
    (.ops [.op none (some 1) (.box 4 (.t 0)),
      .op none (some 2) (.mv (.c (.bool false)))]) 
    (.seq 
      (.ops [.op none (some 3) (.fieldAddr 0 (.t 1)),
        .op none (some 4) (.load false 1 (.t 3)),
        .op none (some 5) (.bin .eql .str (.t 4) (.c (.str [59]))),
        .op none (some 6) (.mv (.t 5)),
        .op (some (6, true)) (some 7) (.fieldAddr 3 (.t 1)),
        .op (some (6, true)) (some 8) (.load false 1 (.t 7)),
        .op (some (6, true)) (some 9) (.un .not (.t 8)),
        .op none (some 10) (.pick (.t 6) (.t 9) (.c (.bool false))),
        .op none (some 2) (.mv (.t 10))]) .ret)) }
def v_acts_Parse_1 : Env := []
def e_acts_Parse_1 : FEnt := .pure false (runPure v_acts_Parse_1 i_acts_Parse_1)

/- internal/strconv.lower: number 41 -/
def i_internal_strconv_lower : IFun := { ntmps := 5, results := [.tmp 2], body := 
  (.seq 
    (.ops [.op none (some 2) (.mv (.c (.int .u8 0)))]) 
    (.seq 
      (.ops [.op none (some 3) (.mv (.t 0)),
        .op none (some 4) (.bin .or .int (.t 3) (.c (.int .u8 32))),
        .op none (some 2) (.mv (.t 4))]) .ret)) }
def v_internal_strconv_lower : Env := []
def e_internal_strconv_lower : FEnt := .pure false (runPure v_internal_strconv_lower i_internal_strconv_lower)

/- internal/strconv.underscoreOK: number 42 -/
def i_internal_strconv_underscoreOK : IFun := { ntmps := 94, results := [.tmp 2], body := 
  (.seq 
    (.ops [.op none (some 2) (.mv (.c (.bool false)))]) 
    (.seq 
      (.ops [.op none (some 3) (.mv (.c (.int .i32 94)))]) 
      (.seq 
        (.ops [.op none (some 4) (.mv (.c (.int .i64 0)))]) 
        (.seq 
          (.seq 
            (.ops [.op none (some 6) (.mv (.t 0)),
              .op none (some 7) (.len .str (.t 6)),
              .op none (some 8) (.bin .geq .int (.t 7) (.c (.int .i64 1))),
              .op none (some 9) (.mv (.t 8)),
              .op (some (9, true)) (some 10) (.mv (.t 0)),
              .op (some (9, true)) (some 11) (.index none (.t 10) (.c (.int .i64 0))),
              .op (some (9, true)) (some 12) (.bin .eql .int (.t 11) (.c (.int .u8 45))),
              .op (some (9, true)) (some 13) (.mv (.t 12)),
              .op (some (13, false)) (some 14) (.mv (.t 0)),
              .op (some (13, false)) (some 15) (.index none (.t 14) (.c (.int .i64 0))),
              .op (some (13, false)) (some 16) (.bin .eql .int (.t 15) (.c (.int .u8 43))),
              .op (some (9, true)) (some 17) (.pick (.t 13) (.c (.bool true)) (.t 16)),
              .op none (some 18) (.pick (.t 9) (.t 17) (.c (.bool false)))]) 
            (.cond (.t 18) 
              (.ops [.op none (some 19) (.mv (.t 0)),
                .op none (some 20) (.slice true 0 (.t 19) (some (.c (.int .i64 1))) none none),
                .op none (some 0) (.mv (.t 20))]) .skip)) 
          (.seq 
            (.ops [.op none (some 5) (.mv (.c (.bool false)))]) 
            (.seq 
              (.seq 
                (.ops [.op none (some 21) (.mv (.t 0)),
                  .op none (some 22) (.len .str (.t 21)),
                  .op none (some 23) (.bin .geq .int (.t 22) (.c (.int .i64 2))),
                  .op none (some 24) (.mv (.t 23)),
                  .op (some (24, true)) (some 25) (.mv (.t 0)),
                  .op (some (24, true)) (some 26) (.index none (.t 25) (.c (.int .i64 0))),
                  .op (some (24, true)) (some 27) (.bin .eql .int (.t 26) (.c (.int .u8 48))),
                  .op none (some 28) (.pick (.t 24) (.t 27) (.c (.bool false))),
                  .op none (some 29) (.mv (.t 28)),
                  .op (some (29, true)) (some 30) (.mv (.t 0)),
                  .op (some (29, true)) (some 31) (.index none (.t 30) (.c (.int .i64 1))),
                  .op (some (29, true)) (some 32) (.call 41 .pure [(.t 31)]),
                  .op (some (29, true)) (some 33) (.bin .eql .int (.t 32) (.c (.int .u8 98))),
                  .op (some (29, true)) (some 34) (.mv (.t 33)),
                  .op (some (34, false)) (some 35) (.mv (.t 0)),
                  .op (some (34, false)) (some 36) (.index none (.t 35) (.c (.int .i64 1))),
                  .op (some (34, false)) (some 37) (.call 41 .pure [(.t 36)]),
                  .op (some (34, false)) (some 38) (.bin .eql .int (.t 37) (.c (.int .u8 111))),
                  .op (some (29, true)) (some 39) (.pick (.t 34) (.c (.bool true)) (.t 38)),
                  .op (some (29, true)) (some 40) (.mv (.t 39)),
                  .op (some (40, false)) (some 41) (.mv (.t 0)),
                  .op (some (40, false)) (some 42) (.index none (.t 41) (.c (.int .i64 1))),
                  .op (some (40, false)) (some 43) (.call 41 .pure [(.t 42)]),
                  .op (some (40, false)) (some 44) (.bin .eql .int (.t 43) (.c (.int .u8 120))),
                  .op (some (29, true)) (some 45) (.pick (.t 40) (.c (.bool true)) (.t 44)),
                  .op none (some 46) (.pick (.t 29) (.t 45) (.c (.bool false)))]) 
                (.cond (.t 46) 
                  (.seq 
                    (.ops [.op none (some 4) (.mv (.c (.int .i64 2)))]) 
                    (.seq 
                      (.ops [.op none (some 3) (.mv (.c (.int .i32 48)))]) 
                      (.ops [.op none (some 47) (.mv (.t 0)),
                        .op none (some 48) (.index none (.t 47) (.c (.int .i64 1))),
                        .op none (some 49) (.call 41 .pure [(.t 48)]),
                        .op none (some 50) (.bin .eql .int (.t 49) (.c (.int .u8 120))),
                        .op none (some 5) (.mv (.t 50))]))) .skip)) 
              (.seq 
                (.block 0 
                  (.loop 
                    (.seq 
                      (.seq 
                        (.ops [.op none (some 51) (.mv (.t 4)),
                          .op none (some 52) (.mv (.t 0)),
                          .op none (some 53) (.len .str (.t 52)),
                          .op none (some 54) (.bin .lss .int (.t 51) (.t 53))]) 
                        (.cond (.t 54) .skip (.exit 0))) 
                      (.seq 
                        (.block 1 
                          (.seq 
                            (.seq 
                              (.ops [.op none (some 57) (.mv (.t 0)),
                                .op none (some 58) (.mv (.t 4)),
                                .op none (some 59) (.index none (.t 57) (.t 58)),
                                .op none (some 60) (.bin .leq .int (.c (.int .u8 48)) (.t 59)),
                                .op none (some 61) (.mv (.t 60)),
                                .op (some (61, true)) (some 62) (.mv (.t 0)),
                                .op (some (61, true)) (some 63) (.mv (.t 4)),
                                .op (some (61, true)) (some 64) (.index none (.t 62) (.t 63)),
                                .op (some (61, true)) (some 65) (.bin .leq .int (.t 64) (.c (.int .u8 57))),
                                .op none (some 66) (.pick (.t 61) (.t 65) (.c (.bool false))),
                                .op none (some 67) (.mv (.t 66)),
                                .op (some (67, false)) (some 68) (.mv (.t 5)),
                                .op (some (67, false)) (some 69) (.mv (.t 68)),
                                .op (some (69, true)) (some 70) (.mv (.t 0)),
                                .op (some (69, true)) (some 71) (.mv (.t 4)),
                                .op (some (69, true)) (some 72) (.index none (.t 70) (.t 71)),
                                .op (some (69, true)) (some 73) (.call 41 .pure [(.t 72)]),
                                .op (some (69, true)) (some 74) (.bin .leq .int (.c (.int .u8 97)) (.t 73)),
                                .op (some (67, false)) (some 75) (.pick (.t 69) (.t 74) (.c (.bool false))),
                                .op (some (67, false)) (some 76) (.mv (.t 75)),
                                .op (some (76, true)) (some 77) (.mv (.t 0)),
                                .op (some (76, true)) (some 78) (.mv (.t 4)),
                                .op (some (76, true)) (some 79) (.index none (.t 77) (.t 78)),
                                .op (some (76, true)) (some 80) (.call 41 .pure [(.t 79)]),
                                .op (some (76, true)) (some 81) (.bin .leq .int (.t 80) (.c (.int .u8 102))),
                                .op (some (67, false)) (some 82) (.pick (.t 76) (.t 81) (.c (.bool false))),
                                .op none (some 83) (.pick (.t 67) (.c (.bool true)) (.t 82))]) 
                              (.cond (.t 83) 
                                (.seq 
                                  (.ops [.op none (some 3) (.mv (.c (.int .i32 48)))]) (.exit 1)) .skip)) 
                            (.seq 
                              (.seq 
                                (.ops [.op none (some 84) (.mv (.t 0)),
                                  .op none (some 85) (.mv (.t 4)),
                                  .op none (some 86) (.index none (.t 84) (.t 85)),
                                  .op none (some 87) (.bin .eql .int (.t 86) (.c (.int .u8 95)))]) 
                                (.cond (.t 87) 
                                  (.seq 
                                    (.seq 
                                      (.ops [.op none (some 88) (.mv (.t 3)),
                                        .op none (some 89) (.bin .neq .int (.t 88) (.c (.int .i32 48)))]) 
                                      (.cond (.t 89) 
                                        (.seq 
                                          (.ops [.op none (some 2) (.mv (.c (.bool false)))]) .ret) .skip)) 
                                    (.seq 
                                      (.ops [.op none (some 3) (.mv (.c (.int .i32 95)))]) (.exit 1))) .skip)) 
                              (.seq 
                                (.seq 
                                  (.ops [.op none (some 90) (.mv (.t 3)),
                                    .op none (some 91) (.bin .eql .int (.t 90) (.c (.int .i32 95)))]) 
                                  (.cond (.t 91) 
                                    (.seq 
                                      (.ops [.op none (some 2) (.mv (.c (.bool false)))]) .ret) .skip)) 
                                (.ops [.op none (some 3) (.mv (.c (.int .i32 33)))]))))) 
                        (.ops [.op none (some 55) (.mv (.t 4)),
                          .op none (some 56) (.bin .add .int (.t 55) (.c (.int .i64 1))),
                          .op none (some 4) (.mv (.t 56))]))))) 
                (.seq 
                  (.ops [.op none (some 92) (.mv (.t 3)),
                    .op none (some 93) (.bin .neq .int (.t 92) (.c (.int .i32 95))),
                    .op none (some 2) (.mv (.t 93))]) .ret)))))))) }
def v_internal_strconv_underscoreOK : Env := [(41, e_internal_strconv_lower)]
def e_internal_strconv_underscoreOK : FEnt := .pure false (runPure v_internal_strconv_underscoreOK i_internal_strconv_underscoreOK)

/- internal/strconv.ParseUint: number 40 -/
def i_internal_strconv_ParseUint : IFun := { ntmps := 172, results := [.tmp 6, .tmp 7], body := 
  (.seq 
    (.ops [.op none (some 6) (.mv (.c (.int .u64 0))),
      .op none (some 7) (.mv (.c .nilif))]) 
    (.seq 
      (.seq 
        (.ops [.op none (some 18) (.mv (.t 0)),
          .op none (some 19) (.bin .eql .str (.t 18) (.c (.str [])))]) 
        (.cond (.t 19) 
          (.seq 
            (.ops [.op none (some 20) (.mkIface 76 (.c (.int .i64 2))),
              .op none (some 6) (.mv (.c (.int .u64 0))),
              .op none (some 7) (.mv (.t 20))]) .ret) .skip)) 
      (.seq 
        (.ops [.op none (some 21) (.mv (.t 1)),
          .op none (some 22) (.bin .eql .int (.t 21) (.c (.int .i64 0))),
          .op none (some 8) (.mv (.t 22))]) 
        (.seq 
          (.ops [.op none (some 23) (.mv (.t 0)),
            .op none (some 9) (.mv (.t 23))]) 
          (.seq 
            (.block 0 
              (.seq 
                (.ops [.op none (some 26) (.mv (.t 1)),
                  .op none (some 27) (.bin .leq .int (.c (.int .i64 2)) (.t 26)),
                  .op none (some 28) (.mv (.t 27)),
                  .op (some (28, true)) (some 29) (.mv (.t 1)),
                  .op (some (28, true)) (some 30) (.bin .leq .int (.t 29) (.c (.int .i64 36))),
                  .op none (some 31) (.pick (.t 28) (.t 30) (.c (.bool false))),
                  .op none (some 25) (.mv (.t 31))]) 
                (.cond (.t 25) .skip 
                  (.seq 
                    (.ops [.op none (some 33) (.mv (.t 1)),
                      .op none (some 34) (.bin .eql .int (.t 33) (.c (.int .i64 0))),
                      .op none (some 32) (.mv (.t 34))]) 
                    (.cond (.t 32) 
                      (.seq 
                        (.ops [.op none (some 1) (.mv (.c (.int .i64 10)))]) 
                        (.seq 
                          (.ops [.op none (some 35) (.mv (.t 0)),
                            .op none (some 36) (.index none (.t 35) (.c (.int .i64 0))),
                            .op none (some 37) (.bin .eql .int (.t 36) (.c (.int .u8 48)))]) 
                          (.cond (.t 37) 
                            (.block 1 
                              (.seq 
                                (.ops [.op none (some 41) (.mv (.t 0)),
                                  .op none (some 42) (.len .str (.t 41)),
                                  .op none (some 43) (.bin .geq .int (.t 42) (.c (.int .i64 3))),
                                  .op none (some 44) (.mv (.t 43)),
                                  .op (some (44, true)) (some 45) (.mv (.t 0)),
                                  .op (some (44, true)) (some 46) (.index none (.t 45) (.c (.int .i64 1))),
                                  .op (some (44, true)) (some 47) (.call 41 .pure [(.t 46)]),
                                  .op (some (44, true)) (some 48) (.bin .eql .int (.t 47) (.c (.int .u8 98))),
                                  .op none (some 49) (.pick (.t 44) (.t 48) (.c (.bool false))),
                                  .op none (some 40) (.mv (.t 49))]) 
                                (.cond (.t 40) 
                                  (.seq 
                                    (.ops [.op none (some 1) (.mv (.c (.int .i64 2)))]) 
                                    (.ops [.op none (some 50) (.mv (.t 0)),
                                      .op none (some 51) (.slice true 0 (.t 50) (some (.c (.int .i64 2))) none none),
                                      .op none (some 0) (.mv (.t 51))])) 
                                  (.seq 
                                    (.ops [.op none (some 53) (.mv (.t 0)),
                                      .op none (some 54) (.len .str (.t 53)),
                                      .op none (some 55) (.bin .geq .int (.t 54) (.c (.int .i64 3))),
                                      .op none (some 56) (.mv (.t 55)),
                                      .op (some (56, true)) (some 57) (.mv (.t 0)),
                                      .op (some (56, true)) (some 58) (.index none (.t 57) (.c (.int .i64 1))),
                                      .op (some (56, true)) (some 59) (.call 41 .pure [(.t 58)]),
                                      .op (some (56, true)) (some 60) (.bin .eql .int (.t 59) (.c (.int .u8 111))),
                                      .op none (some 61) (.pick (.t 56) (.t 60) (.c (.bool false))),
                                      .op none (some 52) (.mv (.t 61))]) 
                                    (.cond (.t 52) 
                                      (.seq 
                                        (.ops [.op none (some 1) (.mv (.c (.int .i64 8)))]) 
                                        (.ops [.op none (some 62) (.mv (.t 0)),
                                          .op none (some 63) (.slice true 0 (.t 62) (some (.c (.int .i64 2))) none none),
                                          .op none (some 0) (.mv (.t 63))])) 
                                      (.seq 
                                        (.ops [.op none (some 65) (.mv (.t 0)),
                                          .op none (some 66) (.len .str (.t 65)),
                                          .op none (some 67) (.bin .geq .int (.t 66) (.c (.int .i64 3))),
                                          .op none (some 68) (.mv (.t 67)),
                                          .op (some (68, true)) (some 69) (.mv (.t 0)),
                                          .op (some (68, true)) (some 70) (.index none (.t 69) (.c (.int .i64 1))),
                                          .op (some (68, true)) (some 71) (.call 41 .pure [(.t 70)]),
                                          .op (some (68, true)) (some 72) (.bin .eql .int (.t 71) (.c (.int .u8 120))),
                                          .op none (some 73) (.pick (.t 68) (.t 72) (.c (.bool false))),
                                          .op none (some 64) (.mv (.t 73))]) 
                                        (.cond (.t 64) 
                                          (.seq 
                                            (.ops [.op none (some 1) (.mv (.c (.int .i64 16)))]) 
                                            (.ops [.op none (some 74) (.mv (.t 0)),
                                              .op none (some 75) (.slice true 0 (.t 74) (some (.c (.int .i64 2))) none none),
                                              .op none (some 0) (.mv (.t 75))])) 
                                          (.seq 
                                            (.ops [.op none (some 1) (.mv (.c (.int .i64 8)))]) 
                                            (.ops [.op none (some 38) (.mv (.t 0)),
                                              .op none (some 39) (.slice true 0 (.t 38) (some (.c (.int .i64 1))) none none),
                                              .op none (some 0) (.mv (.t 39))]))))))))) .skip))) 
                      (.seq 
                        (.ops [.op none (some 24) (.mkIface 76 (.c (.int .i64 3))),
                          .op none (some 6) (.mv (.c (.int .u64 0))),
                          .op none (some 7) (.mv (.t 24))]) .ret)))))) 
            (.seq 
              (.seq 
                (.ops [.op none (some 76) (.mv (.t 2)),
                  .op none (some 77) (.bin .eql .int (.t 76) (.c (.int .i64 0)))]) 
                (.cond (.t 77) 
                  (.ops [.op none (some 2) (.mv (.c (.int .i64 64)))]) 
                  (.seq 
                    (.ops [.op none (some 78) (.mv (.t 2)),
                      .op none (some 79) (.bin .lss .int (.t 78) (.c (.int .i64 0))),
                      .op none (some 80) (.mv (.t 79)),
                      .op (some (80, false)) (some 81) (.mv (.t 2)),
                      .op (some (80, false)) (some 82) (.bin .gtr .int (.t 81) (.c (.int .i64 64))),
                      .op none (some 83) (.pick (.t 80) (.c (.bool true)) (.t 82))]) 
                    (.cond (.t 83) 
                      (.seq 
                        (.ops [.op none (some 84) (.mkIface 76 (.c (.int .i64 4))),
                          .op none (some 6) (.mv (.c (.int .u64 0))),
                          .op none (some 7) (.mv (.t 84))]) .ret) .skip)))) 
              (.seq 
                (.ops [.op none (some 10) (.mv (.c (.int .u64 0)))]) 
                (.seq 
                  (.seq 
                    (.ops [.op none (some 85) (.mv (.t 1))]) 
                    (.block 2 
                      (.seq 
                        (.ops [.op none (some 91) (.bin .eql .int (.t 85) (.c (.int .i64 10))),
                          .op none (some 90) (.mv (.t 91))]) 
                        (.cond (.t 90) 
                          (.ops [.op none (some 10) (.mv (.c (.int .u64 1844674407370955162)))]) 
                          (.seq 
                            (.ops [.op none (some 93) (.bin .eql .int (.t 85) (.c (.int .i64 16))),
                              .op none (some 92) (.mv (.t 93))]) 
                            (.cond (.t 92) 
                              (.ops [.op none (some 10) (.mv (.c (.int .u64 1152921504606846976)))]) 
                              (.ops [.op none (some 86) (.mv (.t 1)),
                                .op none (some 87) (.conv (.int .u64) (.t 86)),
                                .op none (some 88) (.bin .quo .int (.c (.int .u64 18446744073709551615)) (.t 87)),
                                .op none (some 89) (.bin .add .int (.t 88) (.c (.int .u64 1))),
                                .op none (some 10) (.mv (.t 89))]))))))) 
                  (.seq 
                    (.ops [.op none (some 94) (.mv (.t 2)),
                      .op none (some 95) (.conv (.int .u64) (.t 94)),
                      .op none (some 96) (.bin .shl .int (.c (.int .u64 1)) (.t 95)),
                      .op none (some 97) (.bin .sub .int (.t 96) (.c (.int .u64 1))),
                      .op none (some 11) (.mv (.t 97))]) 
                    (.seq 
                      (.ops [.op none (some 12) (.mv (.c (.bool false)))]) 
                      (.seq 
                        (.ops [.op none (some 13) (.mv (.c (.int .u64 0)))]) 
                        (.seq 
                          (.seq 
                            (.ops [.op none (some 98) (.mv (.t 0)),
                              .op none (some 99) (.conv .strBytes (.t 98)),
                              .op none (some 100) (.len .slice (.t 99)),
                              .op none (some 101) (.mv (.c (.int .i64 0)))]) 
                            (.block 3 
                              (.loop 
                                (.seq 
                                  (.ops [.op none (some 102) (.bin .lss .int (.t 101) (.t 100))]) 
                                  (.seq 
                                    (.cond (.t 102) .skip (.exit 3)) 
                                    (.seq 
                                      (.block 4 
                                        (.seq 
                                          (.ops [.op none (some 103) (.indexAddr none 1 (.t 99) (.t 101)),
                                            .op none (some 104) (.load false 1 (.t 103)),
                                            .op none (some 15) (.mv (.t 104))]) 
                                          (.seq 
                                            (.ops [.op none (some 16) (.mv (.c (.int .u8 0)))]) 
                                            (.seq 
                                              (.block 5 
                                                (.seq 
                                                  (.ops [.op none (some 107) (.mv (.t 15)),
                                                    .op none (some 108) (.bin .eql .int (.t 107) (.c (.int .u8 95))),
                                                    .op none (some 109) (.mv (.t 108)),
                                                    .op (some (109, true)) (some 110) (.mv (.t 8)),
                                                    .op none (some 111) (.pick (.t 109) (.t 110) (.c (.bool false))),
                                                    .op none (some 106) (.mv (.t 111))]) 
                                                  (.cond (.t 106) 
                                                    (.seq 
                                                      (.ops [.op none (some 12) (.mv (.c (.bool true)))]) (.exit 4)) 
                                                    (.seq 
                                                      (.ops [.op none (some 113) (.mv (.t 15)),
                                                        .op none (some 114) (.bin .leq .int (.c (.int .u8 48)) (.t 113)),
                                                        .op none (some 115) (.mv (.t 114)),
                                                        .op (some (115, true)) (some 116) (.mv (.t 15)),
                                                        .op (some (115, true)) (some 117) (.bin .leq .int (.t 116) (.c (.int .u8 57))),
                                                        .op none (some 118) (.pick (.t 115) (.t 117) (.c (.bool false))),
                                                        .op none (some 112) (.mv (.t 118))]) 
                                                      (.cond (.t 112) 
                                                        (.ops [.op none (some 119) (.mv (.t 15)),
                                                          .op none (some 120) (.bin .sub .int (.t 119) (.c (.int .u8 48))),
                                                          .op none (some 16) (.mv (.t 120))]) 
                                                        (.seq 
                                                          (.ops [.op none (some 122) (.mv (.t 15)),
                                                            .op none (some 123) (.call 41 .pure [(.t 122)]),
                                                            .op none (some 124) (.bin .leq .int (.c (.int .u8 97)) (.t 123)),
                                                            .op none (some 125) (.mv (.t 124)),
                                                            .op (some (125, true)) (some 126) (.mv (.t 15)),
                                                            .op (some (125, true)) (some 127) (.call 41 .pure [(.t 126)]),
                                                            .op (some (125, true)) (some 128) (.bin .leq .int (.t 127) (.c (.int .u8 122))),
                                                            .op none (some 129) (.pick (.t 125) (.t 128) (.c (.bool false))),
                                                            .op none (some 121) (.mv (.t 129))]) 
                                                          (.cond (.t 121) 
                                                            (.ops [.op none (some 130) (.mv (.t 15)),
                                                              .op none (some 131) (.call 41 .pure [(.t 130)]),
                                                              .op none (some 132) (.bin .sub .int (.t 131) (.c (.int .u8 97))),
                                                              .op none (some 133) (.bin .add .int (.t 132) (.c (.int .u8 10))),
                                                              .op none (some 16) (.mv (.t 133))]) 
                                                            (.seq 
                                                              (.ops [.op none (some 105) (.mkIface 76 (.c (.int .i64 2))),
                                                                .op none (some 6) (.mv (.c (.int .u64 0))),
                                                                .op none (some 7) (.mv (.t 105))]) .ret)))))))) 
                                              (.seq 
                                                (.seq 
                                                  (.ops [.op none (some 134) (.mv (.t 16)),
                                                    .op none (some 135) (.mv (.t 1)),
                                                    .op none (some 136) (.conv (.int .u8) (.t 135)),
                                                    .op none (some 137) (.bin .geq .int (.t 134) (.t 136))]) 
                                                  (.cond (.t 137) 
                                                    (.seq 
                                                      (.ops [.op none (some 138) (.mkIface 76 (.c (.int .i64 2))),
                                                        .op none (some 6) (.mv (.c (.int .u64 0))),
                                                        .op none (some 7) (.mv (.t 138))]) .ret) .skip)) 
                                                (.seq 
                                                  (.seq 
                                                    (.ops [.op none (some 139) (.mv (.t 13)),
                                                      .op none (some 140) (.mv (.t 10)),
                                                      .op none (some 141) (.bin .geq .int (.t 139) (.t 140))]) 
                                                    (.cond (.t 141) 
                                                      (.seq 
                                                        (.ops [.op none (some 142) (.mv (.t 11)),
                                                          .op none (some 143) (.mkIface 76 (.c (.int .i64 1))),
                                                          .op none (some 6) (.mv (.t 142)),
                                                          .op none (some 7) (.mv (.t 143))]) .ret) .skip)) 
                                                  (.seq 
                                                    (.ops [.op none (some 144) (.mv (.t 13)),
                                                      .op none (some 145) (.mv (.t 1)),
                                                      .op none (some 146) (.conv (.int .u64) (.t 145)),
                                                      .op none (some 147) (.bin .mul .int (.t 144) (.t 146)),
                                                      .op none (some 13) (.mv (.t 147))]) 
                                                    (.seq 
                                                      (.ops [.op none (some 148) (.mv (.t 13)),
                                                        .op none (some 149) (.mv (.t 16)),
                                                        .op none (some 150) (.conv (.int .u64) (.t 149)),
                                                        .op none (some 151) (.bin .add .int (.t 148) (.t 150)),
                                                        .op none (some 17) (.mv (.t 151))]) 
                                                      (.seq 
                                                        (.seq 
                                                          (.ops [.op none (some 152) (.mv (.t 17)),
                                                            .op none (some 153) (.mv (.t 13)),
                                                            .op none (some 154) (.bin .lss .int (.t 152) (.t 153)),
                                                            .op none (some 155) (.mv (.t 154)),
                                                            .op (some (155, false)) (some 156) (.mv (.t 17)),
                                                            .op (some (155, false)) (some 157) (.mv (.t 11)),
                                                            .op (some (155, false)) (some 158) (.bin .gtr .int (.t 156) (.t 157)),
                                                            .op none (some 159) (.pick (.t 155) (.c (.bool true)) (.t 158))]) 
                                                          (.cond (.t 159) 
                                                            (.seq 
                                                              (.ops [.op none (some 160) (.mv (.t 11)),
                                                                .op none (some 161) (.mkIface 76 (.c (.int .i64 1))),
                                                                .op none (some 6) (.mv (.t 160)),
                                                                .op none (some 7) (.mv (.t 161))]) .ret) .skip)) 
                                                        (.ops [.op none (some 162) (.mv (.t 17)),
                                                          .op none (some 13) (.mv (.t 162))])))))))))) 
                                      (.ops [.op none (some 163) (.bin .add .int (.t 101) (.c (.int .i64 1))),
                                        .op none (some 101) (.mv (.t 163))]))))))) 
                          (.seq 
                            (.seq 
                              (.ops [.op none (some 164) (.mv (.t 12)),
                                .op none (some 165) (.mv (.t 164)),
                                .op (some (165, true)) (some 166) (.mv (.t 9)),
                                .op (some (165, true)) (some 167) (.call 42 .pure [(.t 166)]),
                                .op (some (165, true)) (some 168) (.un .not (.t 167)),
                                .op none (some 169) (.pick (.t 165) (.t 168) (.c (.bool false)))]) 
                              (.cond (.t 169) 
                                (.seq 
                                  (.ops [.op none (some 170) (.mkIface 76 (.c (.int .i64 2))),
                                    .op none (some 6) (.mv (.c (.int .u64 0))),
                                    .op none (some 7) (.mv (.t 170))]) .ret) .skip)) 
                            (.seq 
                              (.ops [.op none (some 171) (.mv (.t 13)),
                                .op none (some 6) (.mv (.t 171)),
                                .op none (some 7) (.mv (.c .nilif))]) .ret)))))))))))))) }
def v_internal_strconv_ParseUint : Env := [(41, e_internal_strconv_lower), (42, e_internal_strconv_underscoreOK)]
def e_internal_strconv_ParseUint : FEnt := .pure false (runPure v_internal_strconv_ParseUint i_internal_strconv_ParseUint)

/- internal/strconv.ParseInt: number 39 -/
def i_internal_strconv_ParseInt : IFun := { ntmps := 73, results := [.tmp 6, .tmp 7], body := 
  (.seq 
    (.ops [.op none (some 6) (.mv (.c (.int .i64 0))),
      .op none (some 7) (.mv (.c .nilif))]) 
    (.seq 
      (.seq 
        (.ops [.op none (some 12) (.mv (.t 0)),
          .op none (some 13) (.bin .eql .str (.t 12) (.c (.str [])))]) 
        (.cond (.t 13) 
          (.seq 
            (.ops [.op none (some 14) (.mkIface 76 (.c (.int .i64 2))),
              .op none (some 6) (.mv (.c (.int .i64 0))),
              .op none (some 7) (.mv (.t 14))]) .ret) .skip)) 
      (.seq 
        (.ops [.op none (some 8) (.mv (.c (.bool false)))]) 
        (.seq 
          (.seq 
            (.ops [.op none (some 15) (.mv (.t 0)),
              .op none (some 16) (.index none (.t 15) (.c (.int .i64 0)))]) 
            (.block 0 
              (.seq 
                (.ops [.op none (some 18) (.bin .eql .int (.t 16) (.c (.int .u8 43))),
                  .op none (some 17) (.mv (.t 18))]) 
                (.cond (.t 17) 
                  (.ops [.op none (some 19) (.mv (.t 0)),
                    .op none (some 20) (.slice true 0 (.t 19) (some (.c (.int .i64 1))) none none),
                    .op none (some 0) (.mv (.t 20))]) 
                  (.seq 
                    (.ops [.op none (some 22) (.bin .eql .int (.t 16) (.c (.int .u8 45))),
                      .op none (some 21) (.mv (.t 22))]) 
                    (.cond (.t 21) 
                      (.seq 
                        (.ops [.op none (some 23) (.mv (.t 0)),
                          .op none (some 24) (.slice true 0 (.t 23) (some (.c (.int .i64 1))) none none),
                          .op none (some 0) (.mv (.t 24))]) 
                        (.ops [.op none (some 8) (.mv (.c (.bool true)))])) .skip)))))) 
          (.seq 
            (.ops [.op none (some 9) (.mv (.c (.int .u64 0)))]) 
            (.seq 
              (.ops [.op none (some 26) (.mv (.t 0)),
                .op none (some 27) (.mv (.t 1)),
                .op none (some 28) (.mv (.t 2)),
                .op none (some 29) (.call 40 .pure [(.t 26), (.t 27), (.t 28)]),
                .op none (some 25) (.mv (.t 29)),
                .op none (some 30) (.extract (.t 25) 0),
                .op none (some 31) (.extract (.t 25) 1),
                .op none (some 9) (.mv (.t 30)),
                .op none (some 7) (.mv (.t 31))]) 
              (.seq 
                (.seq 
                  (.ops [.op none (some 32) (.mv (.t 7)),
                    .op none (some 33) (.bin .neq .iface (.t 32) (.c .nilif)),
                    .op none (some 34) (.mv (.t 33)),
                    .op (some (34, true)) (some 35) (.mv (.t 7)),
                    .op (some (34, true)) (some 36) (.mkIface 76 (.c (.int .i64 1))),
                    .op (some (34, true)) (some 37) (.bin .neq .iface (.t 35) (.t 36)),
                    .op none (some 38) (.pick (.t 34) (.t 37) (.c (.bool false)))]) 
                  (.cond (.t 38) 
                    (.seq 
                      (.ops [.op none (some 39) (.mv (.t 7)),
                        .op none (some 6) (.mv (.c (.int .i64 0))),
                        .op none (some 7) (.mv (.t 39))]) .ret) .skip)) 
                (.seq 
                  (.seq 
                    (.ops [.op none (some 40) (.mv (.t 2)),
                      .op none (some 41) (.bin .eql .int (.t 40) (.c (.int .i64 0)))]) 
                    (.cond (.t 41) 
                      (.ops [.op none (some 2) (.mv (.c (.int .i64 64)))]) .skip)) 
                  (.seq 
                    (.ops [.op none (some 42) (.mv (.t 2)),
                      .op none (some 43) (.bin .sub .int (.t 42) (.c (.int .i64 1))),
                      .op none (some 44) (.conv (.int .u64) (.t 43)),
                      .op none (some 45) (.bin .shl .int (.c (.int .u64 1)) (.t 44)),
                      .op none (some 10) (.mv (.t 45))]) 
                    (.seq 
                      (.seq 
                        (.ops [.op none (some 46) (.mv (.t 8)),
                          .op none (some 47) (.un .not (.t 46)),
                          .op none (some 48) (.mv (.t 47)),
                          .op (some (48, true)) (some 49) (.mv (.t 9)),
                          .op (some (48, true)) (some 50) (.mv (.t 10)),
                          .op (some (48, true)) (some 51) (.bin .geq .int (.t 49) (.t 50)),
                          .op none (some 52) (.pick (.t 48) (.t 51) (.c (.bool false)))]) 
                        (.cond (.t 52) 
                          (.seq 
                            (.ops [.op none (some 53) (.mv (.t 10)),
                              .op none (some 54) (.bin .sub .int (.t 53) (.c (.int .u64 1))),
                              .op none (some 55) (.conv (.int .i64) (.t 54)),
                              .op none (some 56) (.mkIface 76 (.c (.int .i64 1))),
                              .op none (some 6) (.mv (.t 55)),
                              .op none (some 7) (.mv (.t 56))]) .ret) .skip)) 
                      (.seq 
                        (.seq 
                          (.ops [.op none (some 57) (.mv (.t 8)),
                            .op none (some 58) (.mv (.t 57)),
                            .op (some (58, true)) (some 59) (.mv (.t 9)),
                            .op (some (58, true)) (some 60) (.mv (.t 10)),
                            .op (some (58, true)) (some 61) (.bin .gtr .int (.t 59) (.t 60)),
                            .op none (some 62) (.pick (.t 58) (.t 61) (.c (.bool false)))]) 
                          (.cond (.t 62) 
                            (.seq 
                              (.ops [.op none (some 63) (.mv (.t 10)),
                                .op none (some 64) (.conv (.int .i64) (.t 63)),
                                .op none (some 65) (.un .neg (.t 64)),
                                .op none (some 66) (.mkIface 76 (.c (.int .i64 1))),
                                .op none (some 6) (.mv (.t 65)),
                                .op none (some 7) (.mv (.t 66))]) .ret) .skip)) 
                        (.seq 
                          (.ops [.op none (some 67) (.mv (.t 9)),
                            .op none (some 68) (.conv (.int .i64) (.t 67)),
                            .op none (some 11) (.mv (.t 68))]) 
                          (.seq 
                            (.seq 
                              (.ops [.op none (some 69) (.mv (.t 8))]) 
                              (.cond (.t 69) 
                                (.ops [.op none (some 70) (.mv (.t 11)),
                                  .op none (some 71) (.un .neg (.t 70)),
                                  .op none (some 11) (.mv (.t 71))]) .skip)) 
                            (.seq 
                              (.ops [.op none (some 72) (.mv (.t 11)),
                                .op none (some 6) (.mv (.t 72)),
                                .op none (some 7) (.mv (.c .nilif))]) .ret)))))))))))))) }
def v_internal_strconv_ParseInt : Env := [(40, e_internal_strconv_ParseUint)]
def e_internal_strconv_ParseInt : FEnt := .pure false (runPure v_internal_strconv_ParseInt i_internal_strconv_ParseInt)

/- internal/strconv.Atoi: number 37 -/
def i_internal_strconv_Atoi : IFun := { ntmps := 77, results := [.tmp 2, .tmp 3], body := 
  (.seq 
    (.ops [.op none (some 2) (.mv (.c (.int .i64 0))),
      .op none (some 3) (.mv (.c .nilif))]) 
    (.seq 
      (.ops [.op none (some 11) (.mv (.t 0)),
        .op none (some 12) (.len .str (.t 11)),
        .op none (some 4) (.mv (.t 12))]) 
      (.seq 
        (.seq 
          (.ops [.op none (some 13) (.mv (.c (.bool false))),
            .op (some (13, true)) (some 14) (.mv (.t 4)),
            .op (some (13, true)) (some 15) (.bin .lss .int (.c (.int .i64 0)) (.t 14)),
            .op (some (13, true)) (some 16) (.mv (.t 15)),
            .op (some (16, true)) (some 17) (.mv (.t 4)),
            .op (some (16, true)) (some 18) (.bin .lss .int (.t 17) (.c (.int .i64 10))),
            .op (some (13, true)) (some 19) (.pick (.t 16) (.t 18) (.c (.bool false))),
            .op none (some 20) (.pick (.t 13) (.t 19) (.c (.bool false))),
            .op none (some 21) (.mv (.t 20)),
            .op (some (21, false)) (some 22) (.mv (.c (.bool true))),
            .op (some (22, true)) (some 23) (.mv (.t 4)),
            .op (some (22, true)) (some 24) (.bin .lss .int (.c (.int .i64 0)) (.t 23)),
            .op (some (22, true)) (some 25) (.mv (.t 24)),
            .op (some (25, true)) (some 26) (.mv (.t 4)),
            .op (some (25, true)) (some 27) (.bin .lss .int (.t 26) (.c (.int .i64 19))),
            .op (some (22, true)) (some 28) (.pick (.t 25) (.t 27) (.c (.bool false))),
            .op (some (21, false)) (some 29) (.pick (.t 22) (.t 28) (.c (.bool false))),
            .op none (some 30) (.pick (.t 21) (.c (.bool true)) (.t 29))]) 
          (.cond (.t 30) 
            (.seq 
              (.ops [.op none (some 31) (.mv (.t 0)),
                .op none (some 5) (.mv (.t 31))]) 
              (.seq 
                (.seq 
                  (.ops [.op none (some 32) (.mv (.t 0)),
                    .op none (some 33) (.index none (.t 32) (.c (.int .i64 0))),
                    .op none (some 34) (.bin .eql .int (.t 33) (.c (.int .u8 45))),
                    .op none (some 35) (.mv (.t 34)),
                    .op (some (35, false)) (some 36) (.mv (.t 0)),
                    .op (some (35, false)) (some 37) (.index none (.t 36) (.c (.int .i64 0))),
                    .op (some (35, false)) (some 38) (.bin .eql .int (.t 37) (.c (.int .u8 43))),
                    .op none (some 39) (.pick (.t 35) (.c (.bool true)) (.t 38))]) 
                  (.cond (.t 39) 
                    (.seq 
                      (.ops [.op none (some 40) (.mv (.t 0)),
                        .op none (some 41) (.slice true 0 (.t 40) (some (.c (.int .i64 1))) none none),
                        .op none (some 0) (.mv (.t 41))]) 
                      (.seq 
                        (.ops [.op none (some 42) (.mv (.t 0)),
                          .op none (some 43) (.len .str (.t 42)),
                          .op none (some 44) (.bin .lss .int (.t 43) (.c (.int .i64 1)))]) 
                        (.cond (.t 44) 
                          (.seq 
                            (.ops [.op none (some 45) (.mkIface 76 (.c (.int .i64 2))),
                              .op none (some 2) (.mv (.c (.int .i64 0))),
                              .op none (some 3) (.mv (.t 45))]) .ret) .skip))) .skip)) 
                (.seq 
                  (.ops [.op none (some 6) (.mv (.c (.int .i64 0)))]) 
                  (.seq 
                    (.seq 
                      (.ops [.op none (some 46) (.mv (.t 0)),
                        .op none (some 47) (.conv .strBytes (.t 46)),
                        .op none (some 48) (.len .slice (.t 47)),
                        .op none (some 49) (.mv (.c (.int .i64 0)))]) 
                      (.block 0 
                        (.loop 
                          (.seq 
                            (.ops [.op none (some 50) (.bin .lss .int (.t 49) (.t 48))]) 
                            (.seq 
                              (.cond (.t 50) .skip (.exit 0)) 
                              (.seq 
                                (.block 1 
                                  (.seq 
                                    (.ops [.op none (some 51) (.indexAddr none 1 (.t 47) (.t 49)),
                                      .op none (some 52) (.load false 1 (.t 51)),
                                      .op none (some 8) (.mv (.t 52))]) 
                                    (.seq 
                                      (.ops [.op none (some 53) (.mv (.t 8)),
                                        .op none (some 54) (.bin .sub .int (.t 53) (.c (.int .u8 48))),
                                        .op none (some 8) (.mv (.t 54))]) 
                                      (.seq 
                                        (.seq 
                                          (.ops [.op none (some 55) (.mv (.t 8)),
                                            .op none (some 56) (.bin .gtr .int (.t 55) (.c (.int .u8 9)))]) 
                                          (.cond (.t 56) 
                                            (.seq 
                                              (.ops [.op none (some 57) (.mkIface 76 (.c (.int .i64 2))),
                                                .op none (some 2) (.mv (.c (.int .i64 0))),
                                                .op none (some 3) (.mv (.t 57))]) .ret) .skip)) 
                                        (.ops [.op none (some 58) (.mv (.t 6)),
                                          .op none (some 59) (.bin .mul .int (.t 58) (.c (.int .i64 10))),
                                          .op none (some 60) (.mv (.t 8)),
                                          .op none (some 61) (.conv (.int .i64) (.t 60)),
                                          .op none (some 62) (.bin .add .int (.t 59) (.t 61)),
                                          .op none (some 6) (.mv (.t 62))]))))) 
                                (.ops [.op none (some 63) (.bin .add .int (.t 49) (.c (.int .i64 1))),
                                  .op none (some 49) (.mv (.t 63))]))))))) 
                    (.seq 
                      (.seq 
                        (.ops [.op none (some 64) (.mv (.t 5)),
                          .op none (some 65) (.index none (.t 64) (.c (.int .i64 0))),
                          .op none (some 66) (.bin .eql .int (.t 65) (.c (.int .u8 45)))]) 
                        (.cond (.t 66) 
                          (.ops [.op none (some 67) (.mv (.t 6)),
                            .op none (some 68) (.un .neg (.t 67)),
                            .op none (some 6) (.mv (.t 68))]) .skip)) 
                      (.seq 
                        (.ops [.op none (some 69) (.mv (.t 6)),
                          .op none (some 2) (.mv (.t 69)),
                          .op none (some 3) (.mv (.c .nilif))]) .ret)))))) .skip)) 
        (.seq 
          (.ops [.op none (some 71) (.mv (.t 0)),
            .op none (some 72) (.call 39 .pure [(.t 71), (.c (.int .i64 10)), (.c (.int .i64 0))]),
            .op none (some 70) (.mv (.t 72)),
            .op none (some 73) (.extract (.t 70) 0),
            .op none (some 74) (.extract (.t 70) 1),
            .op none (some 9) (.mv (.t 73)),
            .op none (some 10) (.mv (.t 74))]) 
          (.seq 
            (.ops [.op none (some 75) (.mv (.t 9)),
              .op none (some 76) (.mv (.t 10)),
              .op none (some 2) (.mv (.t 75)),
              .op none (some 3) (.mv (.t 76))]) .ret))))) }
def v_internal_strconv_Atoi : Env := [(39, e_internal_strconv_ParseInt)]
def e_internal_strconv_Atoi : FEnt := .pure false (runPure v_internal_strconv_Atoi i_internal_strconv_Atoi)

/- errors.New: number 48 -/
def i_errors_New : IFun := { ntmps := 7, results := [.tmp 2], body := 
  (.seq 
    (.ops [.op none (some 2) (.mv (.c .nilif))]) 
    (.seq 
      (.ops [.op none (some 3) (.mv (.t 0)),
        .op none (some 4) (.build [(.str [])] [(0, 1, (.t 3))]),
        .op none (some 5) (.box 1 (.t 4)),
        .op none (some 6) (.mkIface 97 (.t 5)),
        .op none (some 2) (.mv (.t 6))]) .ret)) }
def v_errors_New : Env := []
def e_errors_New : FEnt := .pure false (runPure v_errors_New i_errors_New)

/- strconv.baseError: number 45 (lacks internal/stringslite.Clone) -/
def i_strconv_baseError : IFun := { ntmps := 16, results := [.tmp 6], body := 
  (.seq 
    (.ops [.op none (some 6) (.mv (.c .nilptr))]) 
    (.seq 
      (.ops [.op none (some 7) (.mv (.t 0)),
        .op none (some 8) (.mv (.t 1)),
        .op none (some 9) (.call 47 .pure [(.t 8)]),
        .op none (some 10) (.mv (.t 2)),
        .op none (some 11) (.call 24 .pure [(.t 10)]),
        .op none (some 12) (.bin .add .str (.c (.str [105, 110, 118, 97, 108, 105, 100, 32, 98, 97, 115, 101, 32])) (.t 11)),
        .op none (some 13) (.call 48 .pure [(.t 12)]),
        .op none (some 14) (.build [(.str []), (.str []), .nilif] [(0, 1, (.t 7)), (1, 1, (.t 9)), (2, 1, (.t 13))]),
        .op none (some 15) (.box 3 (.t 14)),
        .op none (some 6) (.mv (.t 15))]) .ret)) }
def v_strconv_baseError : Env := [(48, e_errors_New), (24, e_strconv_Itoa)]
def e_strconv_baseError : FEnt := .pure false (runPure v_strconv_baseError i_strconv_baseError)

/- strconv.bitSizeError: number 46 (lacks internal/stringslite.Clone) -/
def i_strconv_bitSizeError : IFun := { ntmps := 16, results := [.tmp 6], body := 
  (.seq 
    (.ops [.op none (some 6) (.mv (.c .nilptr))]) 
    (.seq 
      (.ops [.op none (some 7) (.mv (.t 0)),
        .op none (some 8) (.mv (.t 1)),
        .op none (some 9) (.call 47 .pure [(.t 8)]),
        .op none (some 10) (.mv (.t 2)),
        .op none (some 11) (.call 24 .pure [(.t 10)]),
        .op none (some 12) (.bin .add .str (.c (.str [105, 110, 118, 97, 108, 105, 100, 32, 98, 105, 116, 32, 115, 105, 122, 101, 32])) (.t 11)),
        .op none (some 13) (.call 48 .pure [(.t 12)]),
        .op none (some 14) (.build [(.str []), (.str []), .nilif] [(0, 1, (.t 7)), (1, 1, (.t 9)), (2, 1, (.t 13))]),
        .op none (some 15) (.box 3 (.t 14)),
        .op none (some 6) (.mv (.t 15))]) .ret)) }
def v_strconv_bitSizeError : Env := [(48, e_errors_New), (24, e_strconv_Itoa)]
def e_strconv_bitSizeError : FEnt := .pure false (runPure v_strconv_bitSizeError i_strconv_bitSizeError)

/- strconv.toError: number 38 (lacks strconv.rangeError, strconv.syntaxError) -/
def i_strconv_toError : IFun := { ntmps := 43, results := [.tmp 10], body := 
  (.seq 
    (.ops [.op none (some 10) (.mv (.c .nilif))]) 
    (.seq 
      (.seq 
        (.ops [.op none (some 11) (.mv (.t 4))]) 
        (.block 0 
          (.seq 
            (.ops [.op none (some 13) (.mkIface 76 (.c (.int .i64 2))),
              .op none (some 14) (.bin .eql .iface (.t 11) (.t 13)),
              .op none (some 12) (.mv (.t 14))]) 
            (.cond (.t 12) 
              (.seq 
                (.ops [.op none (some 15) (.mv (.t 0)),
                  .op none (some 16) (.mv (.t 1)),
                  .op none (some 17) (.call 43 .pure [(.t 15), (.t 16)]),
                  .op none (some 18) (.mkIface 79 (.t 17)),
                  .op none (some 10) (.mv (.t 18))]) .ret) 
              (.seq 
                (.ops [.op none (some 20) (.mkIface 76 (.c (.int .i64 1))),
                  .op none (some 21) (.bin .eql .iface (.t 11) (.t 20)),
                  .op none (some 19) (.mv (.t 21))]) 
                (.cond (.t 19) 
                  (.seq 
                    (.ops [.op none (some 22) (.mv (.t 0)),
                      .op none (some 23) (.mv (.t 1)),
                      .op none (some 24) (.call 44 .pure [(.t 22), (.t 23)]),
                      .op none (some 25) (.mkIface 79 (.t 24)),
                      .op none (some 10) (.mv (.t 25))]) .ret) 
                  (.seq 
                    (.ops [.op none (some 27) (.mkIface 76 (.c (.int .i64 3))),
                      .op none (some 28) (.bin .eql .iface (.t 11) (.t 27)),
                      .op none (some 26) (.mv (.t 28))]) 
                    (.cond (.t 26) 
                      (.seq 
                        (.ops [.op none (some 29) (.mv (.t 0)),
                          .op none (some 30) (.mv (.t 1)),
                          .op none (some 31) (.mv (.t 2)),
                          .op none (some 32) (.call 45 .pure [(.t 29), (.t 30), (.t 31)]),
                          .op none (some 33) (.mkIface 79 (.t 32)),
                          .op none (some 10) (.mv (.t 33))]) .ret) 
                      (.seq 
                        (.ops [.op none (some 35) (.mkIface 76 (.c (.int .i64 4))),
                          .op none (some 36) (.bin .eql .iface (.t 11) (.t 35)),
                          .op none (some 34) (.mv (.t 36))]) 
                        (.cond (.t 34) 
                          (.seq 
                            (.ops [.op none (some 37) (.mv (.t 0)),
                              .op none (some 38) (.mv (.t 1)),
                              .op none (some 39) (.mv (.t 3)),
                              .op none (some 40) (.call 46 .pure [(.t 37), (.t 38), (.t 39)]),
                              .op none (some 41) (.mkIface 79 (.t 40)),
                              .op none (some 10) (.mv (.t 41))]) .ret) .skip)))))))))) 
      (.seq 
        (.ops [.op none (some 42) (.mv (.t 4)),
          .op none (some 10) (.mv (.t 42))]) .ret))) }
def v_strconv_toError : Env := [(45, e_strconv_baseError), (46, e_strconv_bitSizeError)]
def e_strconv_toError : FEnt := .pure false (runPure v_strconv_toError i_strconv_toError)

/- strconv.Atoi: number 23 -/
def i_strconv_Atoi : IFun := { ntmps := 18, results := [.tmp 2, .tmp 3], body := 
  (.seq 
    (.ops [.op none (some 2) (.mv (.c (.int .i64 0))),
      .op none (some 3) (.mv (.c .nilif))]) 
    (.seq 
      (.ops [.op none (some 7) (.mv (.t 0)),
        .op none (some 8) (.call 37 .pure [(.t 7)]),
        .op none (some 6) (.mv (.t 8)),
        .op none (some 9) (.extract (.t 6) 0),
        .op none (some 10) (.extract (.t 6) 1),
        .op none (some 4) (.mv (.t 9)),
        .op none (some 5) (.mv (.t 10))]) 
      (.seq 
        (.seq 
          (.ops [.op none (some 11) (.mv (.t 5)),
            .op none (some 12) (.bin .neq .iface (.t 11) (.c .nilif))]) 
          (.cond (.t 12) 
            (.seq 
              (.ops [.op none (some 13) (.mv (.t 4)),
                .op none (some 14) (.mv (.t 0)),
                .op none (some 15) (.mv (.t 5)),
                .op none (some 16) (.call 38 .pure [(.c (.str [65, 116, 111, 105])), (.t 14), (.c (.int .i64 0)), (.c (.int .i64 0)), (.t 15)]),
                .op none (some 2) (.mv (.t 13)),
                .op none (some 3) (.mv (.t 16))]) .ret) .skip)) 
        (.seq 
          (.ops [.op none (some 17) (.mv (.t 4)),
            .op none (some 2) (.mv (.t 17)),
            .op none (some 3) (.mv (.c .nilif))]) .ret)))) }
def v_strconv_Atoi : Env := [(37, e_internal_strconv_Atoi), (38, e_strconv_toError)]
def e_strconv_Atoi : FEnt := .pure false (runPure v_strconv_Atoi i_strconv_Atoi)

/- fettle/acts.num: number 22 -/
def i_acts_num : IFun := { ntmps := 19, results := [.tmp 2], body := 
  (.seq 
    (.ops [.op none (some 2) (.mv (.c (.int .i64 0)))]) 
    (.seq 
      (.ops [.op none (some 6) (.mv (.t 0)),
        .op none (some 7) (.call 23 .pure [(.t 6)]),
        .op none (some 5) (.mv (.t 7)),
        .op none (some 8) (.extract (.t 5) 0),
        .op none (some 9) (.extract (.t 5) 1),
        .op none (some 3) (.mv (.t 8)),
        .op none (some 4) (.mv (.t 9))]) 
      (.seq 
        (.seq 
          (.ops [.op none (some 10) (.mv (.t 4)),
            .op none (some 11) (.bin .neq .iface (.t 10) (.c .nilif)),
            .op none (some 12) (.mv (.t 11)),
            .op (some (12, false)) (some 13) (.mv (.t 3)),
            .op (some (12, false)) (some 14) (.call 24 .pure [(.t 13)]),
            .op (some (12, false)) (some 15) (.mv (.t 0)),
            .op (some (12, false)) (some 16) (.bin .neq .str (.t 14) (.t 15)),
            .op none (some 17) (.pick (.t 12) (.c (.bool true)) (.t 16))]) 
          (.cond (.t 17) 
            (.seq 
              (.ops [.op none (some 2) (.mv (.c (.int .i64 (-1))))]) .ret) .skip)) 
        (.seq 
          (.ops [.op none (some 18) (.mv (.t 3)),
            .op none (some 2) (.mv (.t 18))]) .ret)))) }
def v_acts_num : Env := [(23, e_strconv_Atoi), (24, e_strconv_Itoa)]
def e_acts_num : FEnt := .pure false (runPure v_acts_num i_acts_num)

/- fettle/acts.words: number 20 -/
def i_acts_words : IFun := { ntmps := 2, results := [.tmp 0], body := 
  (.seq 
    (.ops [.op none (some 0) (.mv (.c .nilsl))]) 
    (.seq 
      (.ops [.op none (some 1) (.buildSlice (.str []) 1 12 [(0, (.c (.str []))), (1, (.c (.str [116, 101, 120, 116]))), (2, (.c (.str [105, 110]))), (3, (.c (.str [97, 108, 108]))), (4, (.c (.str [117, 112, 112, 101, 114]))), (5, (.c (.str [108, 111, 119, 101, 114]))), (6, (.c (.str [114, 101, 118]))), (7, (.c (.str [116, 97, 107, 101]))), (8, (.c (.str [100, 114, 111, 112]))), (9, (.c (.str [116, 119, 105, 99, 101]))), (10, (.c (.str [106, 111, 105, 110]))), (11, (.c (.str [102, 97, 105, 108])))]),
        .op none (some 0) (.mv (.t 1))]) .ret)) }
def v_acts_words : Env := []
def e_acts_words : FEnt := .pure false (runPure v_acts_words i_acts_words)

/- slices.Index[[]string,string]: number 21 -/
def i_slices_Index_string_string : IFun := { ntmps := 19, results := [.tmp 4], body := 
  (.seq 
    (.ops [.op none (some 4) (.mv (.c (.int .i64 0)))]) 
    (.seq 
      (.seq 
        (.ops [.op none (some 6) (.mv (.t 0)),
          .op none (some 7) (.len .slice (.t 6)),
          .op none (some 8) (.mv (.c (.int .i64 0)))]) 
        (.block 0 
          (.loop 
            (.seq 
              (.ops [.op none (some 9) (.bin .lss .int (.t 8) (.t 7))]) 
              (.seq 
                (.cond (.t 9) .skip (.exit 0)) 
                (.seq 
                  (.block 1 
                    (.seq 
                      (.ops [.op none (some 10) (.mv (.t 8)),
                        .op none (some 5) (.mv (.t 10))]) 
                      (.seq 
                        (.ops [.op none (some 11) (.mv (.t 1)),
                          .op none (some 12) (.mv (.t 0)),
                          .op none (some 13) (.mv (.t 5)),
                          .op none (some 14) (.indexAddr none 1 (.t 12) (.t 13)),
                          .op none (some 15) (.load false 1 (.t 14)),
                          .op none (some 16) (.bin .eql .str (.t 11) (.t 15))]) 
                        (.cond (.t 16) 
                          (.seq 
                            (.ops [.op none (some 17) (.mv (.t 5)),
                              .op none (some 4) (.mv (.t 17))]) .ret) .skip)))) 
                  (.ops [.op none (some 18) (.bin .add .int (.t 8) (.c (.int .i64 1))),
                    .op none (some 8) (.mv (.t 18))]))))))) 
      (.seq 
        (.ops [.op none (some 4) (.mv (.c (.int .i64 (-1))))]) .ret))) }
def v_slices_Index_string_string : Env := []
def e_slices_Index_string_string : FEnt := .pure false (runPure v_slices_Index_string_string i_slices_Index_string_string)

/- fettle/acts.one: number 18 -/
def i_acts_one : IFun := { ntmps := 70, results := [.cell 2 true 3, .tmp 3], body := 
  (.seq 
    (.ops [.op none (some 2) (.alloc (.agg [(.int .i64 0), (.int .i64 0), (.str [])]) 3),
      .op none (some 3) (.mv (.c (.bool false)))]) 
    (.seq 
      (.seq 
        (.ops [.op none (some 5) (.mv (.t 0)),
          .op none (some 6) (.len .slice (.t 5)),
          .op none (some 7) (.bin .eql .int (.t 6) (.c (.int .i64 0))),
          .op none (some 8) (.mv (.t 7)),
          .op (some (8, false)) (some 9) (.mv (.t 0)),
          .op (some (8, false)) (some 10) (.indexAddr none 4 (.t 9) (.c (.int .i64 0))),
          .op (some (8, false)) (some 11) (.fieldAddr 3 (.t 10)),
          .op (some (8, false)) (some 12) (.load false 1 (.t 11)),
          .op none (some 13) (.pick (.t 8) (.c (.bool true)) (.t 12))]) 
        (.cond (.t 13) 
          (.seq 
            (.ops [.op none (some 14) (.build [(.int .i64 0), (.int .i64 0), (.str [])] []),
              .op none none (.store 3 (.t 2) (.t 14)),
              .op none (some 3) (.mv (.c (.bool false)))]) .ret) .skip)) 
      (.seq 
        (.draw [([], .op none (some 15) (.call 20 .pure [])),
          ([], .op none (some 16) (.mv (.t 0))),
          ([1], .op none (some 17) (.indexAddr none 4 (.t 16) (.c (.int .i64 0)))),
          ([2], .op none (some 18) (.fieldAddr 0 (.t 17))),
          ([3], .op none (some 19) (.load false 1 (.t 18))),
          ([0, 4], .op none (some 20) (.call 21 .pure [(.t 15), (.t 19)])),
          ([5], .op none (some 21) (.max (.t 20) (.c (.int .i64 0)))),
          ([6], .op none (some 22) (.build [(.int .i64 0), (.int .i64 0), (.str [])] [(0, 1, (.t 21))])),
          ([], .op none (some 4) (.alloc (.agg [(.int .i64 0), (.int .i64 0), (.str [])]) 3)),
          ([0, 1, 2, 3, 4, 5, 6, 7, 8], .op none none (.store 3 (.t 4) (.t 22)))]) 
        (.seq 
          (.block 0 
            (.seq 
              (.ops [.op none (some 24) (.fieldAddr 0 (.t 4)),
                .op none (some 25) (.load false 1 (.t 24)),
                .op none (some 26) (.call 13 .pure [(.t 25)]),
                .op none (some 23) (.mv (.t 26))]) 
              (.cond (.t 23) 
                (.seq 
                  (.seq 
                    (.ops [.op none (some 27) (.mv (.t 0)),
                      .op none (some 28) (.len .slice (.t 27)),
                      .op none (some 29) (.bin .neq .int (.t 28) (.c (.int .i64 2))),
                      .op none (some 30) (.mv (.t 29)),
                      .op (some (30, false)) (some 31) (.mv (.t 0)),
                      .op (some (30, false)) (some 32) (.indexAddr none 4 (.t 31) (.c (.int .i64 1))),
                      .op (some (30, false)) (some 33) (.fieldAddr 3 (.t 32)),
                      .op (some (30, false)) (some 34) (.load false 1 (.t 33)),
                      .op (some (30, false)) (some 35) (.un .not (.t 34)),
                      .op none (some 36) (.pick (.t 30) (.c (.bool true)) (.t 35))]) 
                    (.cond (.t 36) 
                      (.seq 
                        (.ops [.op none (some 37) (.build [(.int .i64 0), (.int .i64 0), (.str [])] []),
                          .op none none (.store 3 (.t 2) (.t 37)),
                          .op none (some 3) (.mv (.c (.bool false)))]) .ret) .skip)) 
                  (.ops [.op none (some 38) (.mv (.t 0)),
                    .op none (some 39) (.indexAddr none 4 (.t 38) (.c (.int .i64 1))),
                    .op none (some 40) (.fieldAddr 0 (.t 39)),
                    .op none (some 41) (.load false 1 (.t 40)),
                    .op none (some 42) (.fieldAddr 2 (.t 4)),
                    .op none none (.store 1 (.t 42) (.t 41))])) 
                (.seq 
                  (.ops [.op none (some 44) (.fieldAddr 0 (.t 4)),
                    .op none (some 45) (.load false 1 (.t 44)),
                    .op none (some 46) (.call 15 .pure [(.t 45)]),
                    .op none (some 47) (.bin .geq .int (.t 46) (.c (.int .i64 0))),
                    .op none (some 43) (.mv (.t 47))]) 
                  (.cond (.t 43) 
                    (.seq 
                      (.seq 
                        (.ops [.op none (some 48) (.mv (.t 0)),
                          .op none (some 49) (.len .slice (.t 48)),
                          .op none (some 50) (.bin .neq .int (.t 49) (.c (.int .i64 2))),
                          .op none (some 51) (.mv (.t 50)),
                          .op (some (51, false)) (some 52) (.mv (.t 0)),
                          .op (some (51, false)) (some 53) (.indexAddr none 4 (.t 52) (.c (.int .i64 1))),
                          .op (some (51, false)) (some 54) (.fieldAddr 3 (.t 53)),
                          .op (some (51, false)) (some 55) (.load false 1 (.t 54)),
                          .op none (some 56) (.pick (.t 51) (.c (.bool true)) (.t 55))]) 
                        (.cond (.t 56) 
                          (.seq 
                            (.ops [.op none (some 57) (.build [(.int .i64 0), (.int .i64 0), (.str [])] []),
                              .op none none (.store 3 (.t 2) (.t 57)),
                              .op none (some 3) (.mv (.c (.bool false)))]) .ret) .skip)) 
                      (.ops [.op none (some 58) (.mv (.t 0)),
                        .op none (some 59) (.indexAddr none 4 (.t 58) (.c (.int .i64 1))),
                        .op none (some 60) (.fieldAddr 0 (.t 59)),
                        .op none (some 61) (.load false 1 (.t 60)),
                        .op none (some 62) (.call 22 .pure [(.t 61)]),
                        .op none (some 63) (.fieldAddr 1 (.t 4)),
                        .op none none (.store 1 (.t 63) (.t 62))])) 
                    (.seq 
                      (.ops [.op none (some 65) (.mv (.t 0)),
                        .op none (some 66) (.len .slice (.t 65)),
                        .op none (some 67) (.bin .neq .int (.t 66) (.c (.int .i64 1))),
                        .op none (some 64) (.mv (.t 67))]) 
                      (.cond (.t 64) 
                        (.seq 
                          (.ops [.op none (some 68) (.build [(.int .i64 0), (.int .i64 0), (.str [])] []),
                            .op none none (.store 3 (.t 2) (.t 68)),
                            .op none (some 3) (.mv (.c (.bool false)))]) .ret) .skip))))))) 
          (.seq 
            (.ops [.op none (some 69) (.load true 3 (.t 4)),
              .op none none (.store 3 (.t 2) (.t 69)),
              .op none (some 3) (.mv (.c (.bool true)))]) .ret))))) }
def v_acts_one : Env := [(22, e_acts_num), (13, e_acts_text), (15, e_acts_top), (20, e_acts_words), (21, e_slices_Index_string_string)]
def e_acts_one : FEnt := .pure false (runPure v_acts_one i_acts_one)

/- slices.Clip[[]fettle/api.Do,fettle/api.Do]: number 19 -/
def i_api_Do : IFun := { ntmps := 9, results := [.tmp 2], body := 
  (.seq 
    (.ops [.op none (some 2) (.mv (.c .nilsl))]) 
    (.seq 
      (.ops [.op none (some 3) (.mv (.t 0)),
        .op none (some 4) (.mv (.t 0)),
        .op none (some 5) (.len .slice (.t 4)),
        .op none (some 6) (.mv (.t 0)),
        .op none (some 7) (.len .slice (.t 6)),
        .op none (some 8) (.slice false 3 (.t 3) none (some (.t 5)) (some (.t 7))),
        .op none (some 2) (.mv (.t 8))]) .ret)) }
def v_api_Do : Env := []
def e_api_Do : FEnt := .raw (runRaw v_api_Do i_api_Do)

/- slices.IndexFunc[[]fettle/api.Word,fettle/api.Word]: number 17 -/
def i_api_Word : IFun := { ntmps := 19, results := [.tmp 4], body := 
  (.seq 
    (.ops [.op none (some 4) (.mv (.c (.int .i64 0)))]) 
    (.seq 
      (.seq 
        (.ops [.op none (some 6) (.mv (.t 0)),
          .op none (some 7) (.len .slice (.t 6)),
          .op none (some 8) (.mv (.c (.int .i64 0)))]) 
        (.block 0 
          (.loop 
            (.seq 
              (.ops [.op none (some 9) (.bin .lss .int (.t 8) (.t 7))]) 
              (.seq 
                (.cond (.t 9) .skip (.exit 0)) 
                (.seq 
                  (.block 1 
                    (.seq 
                      (.ops [.op none (some 10) (.mv (.t 8)),
                        .op none (some 5) (.mv (.t 10))]) 
                      (.seq 
                        (.ops [.op none (some 11) (.mv (.t 1)),
                          .op none (some 12) (.mv (.t 0)),
                          .op none (some 13) (.mv (.t 5)),
                          .op none (some 14) (.indexAddr none 4 (.t 12) (.t 13)),
                          .op none (some 15) (.load true 4 (.t 14)),
                          .op none (some 16) (.callv (.t 11) .pure [(.t 15)])]) 
                        (.cond (.t 16) 
                          (.seq 
                            (.ops [.op none (some 17) (.mv (.t 5)),
                              .op none (some 4) (.mv (.t 17))]) .ret) .skip)))) 
                  (.ops [.op none (some 18) (.bin .add .int (.t 8) (.c (.int .i64 1))),
                    .op none (some 8) (.mv (.t 18))]))))))) 
      (.seq 
        (.ops [.op none (some 4) (.mv (.c (.int .i64 (-1))))]) .ret))) }
def v_api_Word : Env := [(16, e_acts_Parse_1)]
def e_api_Word : FEnt := .pure false (runPure v_api_Word i_api_Word)

/- fettle/acts.Parse: number 9 -/
def i_acts_Parse : IFun := { ntmps := 46, results := [.tmp 2, .tmp 3], body := 
  (.seq 
    (.ops [.op none (some 2) (.mv (.c .nilsl)),
      .op none (some 3) (.mv (.c (.bool false)))]) 
    (.seq 
      (.ops [.op none (some 4) (.mv (.c .nilsl))]) 
      (.seq 
        (.seq 
          (.ops [.op none (some 5) (.mv (.c (.int .i64 0)))]) 
          (.block 0 
            (.loop 
              (.seq 
                (.seq 
                  (.ops [.op none (some 10) (.mv (.t 5)),
                    .op none (some 11) (.mv (.t 0)),
                    .op none (some 12) (.len .slice (.t 11)),
                    .op none (some 13) (.bin .leq .int (.t 10) (.t 12))]) 
                  (.cond (.t 13) .skip (.exit 0))) 
                (.block 1 
                  (.seq 
                    (.ops [.op none (some 14) (.mv (.t 0)),
                      .op none (some 15) (.mv (.t 5)),
                      .op none (some 16) (.slice false 4 (.t 14) (some (.t 15)) none none),
                      .op none (some 17) (.call 17 .pure [(.t 16), (.c (.fn 16 []))]),
                      .op none (some 6) (.mv (.t 17))]) 
                    (.seq 
                      (.ops [.op none (some 18) (.mv (.t 0)),
                        .op none (some 19) (.len .slice (.t 18)),
                        .op none (some 7) (.mv (.t 19))]) 
                      (.seq 
                        (.seq 
                          (.ops [.op none (some 20) (.mv (.t 6)),
                            .op none (some 21) (.bin .geq .int (.t 20) (.c (.int .i64 0)))]) 
                          (.cond (.t 21) 
                            (.ops [.op none (some 22) (.mv (.t 5)),
                              .op none (some 23) (.mv (.t 6)),
                              .op none (some 24) (.bin .add .int (.t 22) (.t 23)),
                              .op none (some 7) (.mv (.t 24))]) .skip)) 
                        (.seq 
                          (.ops [.op none (some 26) (.mv (.t 0)),
                            .op none (some 27) (.mv (.t 5)),
                            .op none (some 28) (.mv (.t 7)),
                            .op none (some 29) (.slice false 4 (.t 26) (some (.t 27)) (some (.t 28)) none),
                            .op none (some 30) (.call 18 .pure [(.t 29)]),
                            .op none (some 25) (.mv (.t 30)),
                            .op none (some 31) (.extract (.t 25) 0),
                            .op none (some 32) (.extract (.t 25) 1),
                            .op none (some 8) (.alloc (.agg [(.int .i64 0), (.int .i64 0), (.str [])]) 3),
                            .op none none (.store 3 (.t 8) (.t 31)),
                            .frz 8,
                            .op none (some 9) (.mv (.t 32))]) 
                          (.seq 
                            (.seq 
                              (.ops [.op none (some 33) (.mv (.t 9)),
                                .op none (some 34) (.un .not (.t 33))]) 
                              (.cond (.t 34) 
                                (.seq 
                                  (.ops [.op none (some 2) (.mv (.c .nilsl)),
                                    .op none (some 3) (.mv (.c (.bool false)))]) .ret) .skip)) 
                            (.seq 
                              (.ops [.op none (some 35) (.mv (.t 4)),
                                .op none (some 36) (.load true 3 (.t 8)),
                                .op none (some 37) (.buildSlice (.agg [(.int .i64 0), (.int .i64 0), (.str [])]) 3 1 [(0, (.t 36))]),
                                .op none (some 38) (.append 3 32 (.t 35) (.t 37)),
                                .op none (some 4) (.mv (.t 38))]) 
                              (.ops [.op none (some 39) (.mv (.t 7)),
                                .op none (some 40) (.bin .add .int (.t 39) (.c (.int .i64 1))),
                                .op none (some 5) (.mv (.t 40))])))))))))))) 
        (.seq 
          (.seq 
            (.ops [.op none (some 41) (.mv (.t 4)),
              .op none (some 42) (.call 10 .pure [(.t 41)]),
              .op none (some 43) (.un .not (.t 42))]) 
            (.cond (.t 43) 
              (.seq 
                (.ops [.op none (some 2) (.mv (.c .nilsl)),
                  .op none (some 3) (.mv (.c (.bool false)))]) .ret) .skip)) 
          (.seq 
            (.ops [.op none (some 44) (.mv (.t 4)),
              .op none (some 45) (.call 19 .raw [(.t 44)]),
              .op none (some 2) (.mv (.t 45)),
              .op none (some 3) (.mv (.c (.bool true)))]) .ret))))) }
def v_acts_Parse : Env := [(10, e_acts_Ok), (16, e_acts_Parse_1), (18, e_acts_one), (19, e_api_Do), (17, e_api_Word)]
def e_acts_Parse : FEnt := .pure false (runPure v_acts_Parse i_acts_Parse)

/- bytes.Join: number 26 -/
def i_bytes_Join : IFun := { ntmps := 92, results := [.tmp 4], body := 
  (.seq 
    (.ops [.op none (some 4) (.mv (.c .nilsl))]) 
    (.seq 
      (.seq 
        (.ops [.op none (some 12) (.mv (.t 0)),
          .op none (some 13) (.len .slice (.t 12)),
          .op none (some 14) (.bin .eql .int (.t 13) (.c (.int .i64 0)))]) 
        (.cond (.t 14) 
          (.seq 
            (.ops [.op none (some 15) (.buildSlice (.int .u8 0) 1 0 []),
              .op none (some 4) (.mv (.t 15))]) .ret) .skip)) 
      (.seq 
        (.seq 
          (.ops [.op none (some 16) (.mv (.t 0)),
            .op none (some 17) (.len .slice (.t 16)),
            .op none (some 18) (.bin .eql .int (.t 17) (.c (.int .i64 1)))]) 
          (.cond (.t 18) 
            (.seq 
              (.ops [.op none (some 19) (.mv (.t 0)),
                .op none (some 20) (.indexAddr none 1 (.t 19) (.c (.int .i64 0))),
                .op none (some 21) (.load false 1 (.t 20)),
                .op none (some 22) (.append 1 1 (.c .nilsl) (.t 21)),
                .op none (some 4) (.mv (.t 22))]) .ret) .skip)) 
        (.seq 
          (.ops [.op none (some 5) (.mv (.c (.int .i64 0)))]) 
          (.seq 
            (.seq 
              (.ops [.op none (some 23) (.mv (.t 1)),
                .op none (some 24) (.len .slice (.t 23)),
                .op none (some 25) (.bin .gtr .int (.t 24) (.c (.int .i64 0)))]) 
              (.cond (.t 25) 
                (.seq 
                  (.seq 
                    (.ops [.op none (some 26) (.mv (.t 1)),
                      .op none (some 27) (.len .slice (.t 26)),
                      .op none (some 28) (.mv (.t 0)),
                      .op none (some 29) (.len .slice (.t 28)),
                      .op none (some 30) (.bin .sub .int (.t 29) (.c (.int .i64 1))),
                      .op none (some 31) (.bin .quo .int (.c (.int .i64 9223372036854775807)) (.t 30)),
                      .op none (some 32) (.bin .geq .int (.t 27) (.t 31))]) 
                    (.cond (.t 32) 
                      (.ops [.op none (some 33) (.mkIface 9 (.c (.str [98, 121, 116, 101, 115, 58, 32, 74, 111, 105, 110, 32, 111, 117, 116, 112, 117, 116, 32, 108, 101, 110, 103, 116, 104, 32, 111, 118, 101, 114, 102, 108, 111, 119]))),
                        .op none none (.stop)]) .skip)) 
                  (.ops [.op none (some 34) (.mv (.t 5)),
                    .op none (some 35) (.mv (.t 1)),
                    .op none (some 36) (.len .slice (.t 35)),
                    .op none (some 37) (.mv (.t 0)),
                    .op none (some 38) (.len .slice (.t 37)),
                    .op none (some 39) (.bin .sub .int (.t 38) (.c (.int .i64 1))),
                    .op none (some 40) (.bin .mul .int (.t 36) (.t 39)),
                    .op none (some 41) (.bin .add .int (.t 34) (.t 40)),
                    .op none (some 5) (.mv (.t 41))])) .skip)) 
            (.seq 
              (.seq 
                (.ops [.op none (some 42) (.mv (.t 0)),
                  .op none (some 43) (.len .slice (.t 42)),
                  .op none (some 44) (.mv (.c (.int .i64 0)))]) 
                (.block 0 
                  (.loop 
                    (.seq 
                      (.ops [.op none (some 45) (.bin .lss .int (.t 44) (.t 43))]) 
                      (.seq 
                        (.cond (.t 45) .skip (.exit 0)) 
                        (.seq 
                          (.block 1 
                            (.seq 
                              (.ops [.op none (some 46) (.indexAddr none 1 (.t 42) (.t 44)),
                                .op none (some 47) (.load false 1 (.t 46)),
                                .op none (some 7) (.mv (.t 47))]) 
                              (.seq 
                                (.seq 
                                  (.ops [.op none (some 48) (.mv (.t 7)),
                                    .op none (some 49) (.len .slice (.t 48)),
                                    .op none (some 50) (.mv (.t 5)),
                                    .op none (some 51) (.bin .sub .int (.c (.int .i64 9223372036854775807)) (.t 50)),
                                    .op none (some 52) (.bin .gtr .int (.t 49) (.t 51))]) 
                                  (.cond (.t 52) 
                                    (.ops [.op none (some 53) (.mkIface 9 (.c (.str [98, 121, 116, 101, 115, 58, 32, 74, 111, 105, 110, 32, 111, 117, 116, 112, 117, 116, 32, 108, 101, 110, 103, 116, 104, 32, 111, 118, 101, 114, 102, 108, 111, 119]))),
                                      .op none none (.stop)]) .skip)) 
                                (.ops [.op none (some 54) (.mv (.t 5)),
                                  .op none (some 55) (.mv (.t 7)),
                                  .op none (some 56) (.len .slice (.t 55)),
                                  .op none (some 57) (.bin .add .int (.t 54) (.t 56)),
                                  .op none (some 5) (.mv (.t 57))])))) 
                          (.ops [.op none (some 58) (.bin .add .int (.t 44) (.c (.int .i64 1))),
                            .op none (some 44) (.mv (.t 58))]))))))) 
              (.seq 
                (.ops [.op none (some 59) (.mv (.t 5)),
                  .op none (some 60) (.call 31 .own [(.t 59)]),
                  .op none (some 61) (.mv (.t 5)),
                  .op none (some 62) (.mv (.t 5)),
                  .op none (some 63) (.slice false 1 (.t 60) none (some (.t 61)) (some (.t 62))),
                  .op none (some 8) (.mv (.t 63))]) 
                (.seq 
                  (.ops [.op none (some 64) (.mv (.t 8)),
                    .op none (some 65) (.mv (.t 0)),
                    .op none (some 66) (.indexAddr none 1 (.t 65) (.c (.int .i64 0))),
                    .op none (some 67) (.load false 1 (.t 66)),
                    .op none (some 68) (.copy 1 (.t 64) (.t 67)),
                    .op none (some 9) (.mv (.t 68))]) 
                  (.seq 
                    (.seq 
                      (.ops [.op none (some 69) (.mv (.t 0)),
                        .op none (some 70) (.slice false 1 (.t 69) (some (.c (.int .i64 1))) none none),
                        .op none (some 71) (.len .slice (.t 70)),
                        .op none (some 72) (.mv (.c (.int .i64 0)))]) 
                      (.block 2 
                        (.loop 
                          (.seq 
                            (.ops [.op none (some 73) (.bin .lss .int (.t 72) (.t 71))]) 
                            (.seq 
                              (.cond (.t 73) .skip (.exit 2)) 
                              (.seq 
                                (.block 3 
                                  (.seq 
                                    (.ops [.op none (some 74) (.indexAddr none 1 (.t 70) (.t 72)),
                                      .op none (some 75) (.load false 1 (.t 74)),
                                      .op none (some 11) (.mv (.t 75))]) 
                                    (.seq 
                                      (.ops [.op none (some 76) (.mv (.t 9)),
                                        .op none (some 77) (.mv (.t 8)),
                                        .op none (some 78) (.mv (.t 9)),
                                        .op none (some 79) (.slice false 1 (.t 77) (some (.t 78)) none none),
                                        .op none (some 80) (.mv (.t 1)),
                                        .op none (some 81) (.copy 1 (.t 79) (.t 80)),
                                        .op none (some 82) (.bin .add .int (.t 76) (.t 81)),
                                        .op none (some 9) (.mv (.t 82))]) 
                                      (.ops [.op none (some 83) (.mv (.t 9)),
                                        .op none (some 84) (.mv (.t 8)),
                                        .op none (some 85) (.mv (.t 9)),
                                        .op none (some 86) (.slice false 1 (.t 84) (some (.t 85)) none none),
                                        .op none (some 87) (.mv (.t 11)),
                                        .op none (some 88) (.copy 1 (.t 86) (.t 87)),
                                        .op none (some 89) (.bin .add .int (.t 83) (.t 88)),
                                        .op none (some 9) (.mv (.t 89))])))) 
                                (.ops [.op none (some 90) (.bin .add .int (.t 72) (.c (.int .i64 1))),
                                  .op none (some 72) (.mv (.t 90))]))))))) 
                    (.seq 
                      (.ops [.op none (some 91) (.mv (.t 8)),
                        .op none (some 4) (.mv (.t 91))]) .ret)))))))))) }
def v_bytes_Join : Env := [(31, e_internal_bytealg_MakeNoZero)]
def e_bytes_Join : FEnt := .pure true (runOwn v_bytes_Join i_bytes_Join)

/- fettle/acts.joined: number 30 -/
def i_acts_joined : IFun := { ntmps := 26, results := [.tmp 4], body := 
  (.seq 
    (.ops [.op none (some 4) (.mv (.c .nilsl))]) 
    (.seq 
      (.ops [.op none (some 5) (.mv (.c .nilsl))]) 
      (.seq 
        (.seq 
          (.ops [.op none (some 8) (.mv (.t 0)),
            .op none (some 9) (.len .slice (.t 8)),
            .op none (some 10) (.mv (.c (.int .i64 0)))]) 
          (.block 0 
            (.loop 
              (.seq 
                (.ops [.op none (some 11) (.bin .lss .int (.t 10) (.t 9))]) 
                (.seq 
                  (.cond (.t 11) .skip (.exit 0)) 
                  (.seq 
                    (.block 1 
                      (.seq 
                        (.ops [.op none (some 12) (.mv (.t 10)),
                          .op none (some 13) (.indexAddr none 1 (.t 8) (.t 10)),
                          .op none (some 14) (.load false 1 (.t 13)),
                          .op none (some 6) (.mv (.t 12)),
                          .op none (some 7) (.mv (.t 14))]) 
                        (.seq 
                          (.seq 
                            (.ops [.op none (some 15) (.mv (.t 6)),
                              .op none (some 16) (.bin .gtr .int (.t 15) (.c (.int .i64 0)))]) 
                            (.cond (.t 16) 
                              (.ops [.op none (some 17) (.mv (.t 5)),
                                .op none (some 18) (.mv (.t 1)),
                                .op none (some 19) (.append 1 1 (.t 17) (.t 18)),
                                .op none (some 5) (.mv (.t 19))]) .skip)) 
                          (.ops [.op none (some 20) (.mv (.t 5)),
                            .op none (some 21) (.mv (.t 7)),
                            .op none (some 22) (.buildSlice (.int .u8 0) 1 1 [(0, (.t 21))]),
                            .op none (some 23) (.append 1 1 (.t 20) (.t 22)),
                            .op none (some 5) (.mv (.t 23))])))) 
                    (.ops [.op none (some 24) (.bin .add .int (.t 10) (.c (.int .i64 1))),
                      .op none (some 10) (.mv (.t 24))]))))))) 
        (.seq 
          (.ops [.op none (some 25) (.mv (.t 5)),
            .op none (some 4) (.mv (.t 25))]) .ret)))) }
def v_acts_joined : Env := []
def e_acts_joined : FEnt := .pure true (runOwn v_acts_joined i_acts_joined)

/- fettle/acts.turned: number 27 -/
def i_acts_turned : IFun := { ntmps := 39, results := [.tmp 8], body := 
  (.seq 
    (.ops [.op none (some 8) (.mv (.c .nilsl))]) 
    (.seq 
      (.ops [.op none (some 12) (.mv (.t 0)),
        .op none (some 13) (.call 6 .own [(.t 12)]),
        .op none (some 9) (.mv (.t 13))]) 
      (.seq 
        (.seq 
          (.ops [.op none (some 14) (.mv (.t 9)),
            .op none (some 15) (.len .slice (.t 14)),
            .op none (some 16) (.mv (.c (.int .i64 0)))]) 
          (.block 0 
            (.loop 
              (.seq 
                (.ops [.op none (some 17) (.bin .lss .int (.t 16) (.t 15))]) 
                (.seq 
                  (.cond (.t 17) .skip (.exit 0)) 
                  (.seq 
                    (.block 1 
                      (.seq 
                        (.ops [.op none (some 18) (.mv (.t 16)),
                          .op none (some 19) (.indexAddr none 1 (.t 14) (.t 16)),
                          .op none (some 20) (.load false 1 (.t 19)),
                          .op none (some 10) (.mv (.t 18)),
                          .op none (some 11) (.mv (.t 20))]) 
                        (.seq 
                          (.ops [.op none (some 21) (.mv (.t 11)),
                            .op none (some 22) (.mv (.t 1)),
                            .op none (some 23) (.bin .geq .int (.t 21) (.t 22)),
                            .op none (some 24) (.mv (.t 23)),
                            .op (some (24, true)) (some 25) (.mv (.t 11)),
                            .op (some (24, true)) (some 26) (.mv (.t 2)),
                            .op (some (24, true)) (some 27) (.bin .leq .int (.t 25) (.t 26)),
                            .op none (some 28) (.pick (.t 24) (.t 27) (.c (.bool false)))]) 
                          (.cond (.t 28) 
                            (.ops [.op none (some 29) (.mv (.t 9)),
                              .op none (some 30) (.mv (.t 10)),
                              .op none (some 31) (.mv (.t 11)),
                              .op none (some 32) (.conv (.int .i64) (.t 31)),
                              .op none (some 33) (.mv (.t 3)),
                              .op none (some 34) (.bin .add .int (.t 32) (.t 33)),
                              .op none (some 35) (.conv (.int .u8) (.t 34)),
                              .op none (some 36) (.indexAddr none 1 (.t 29) (.t 30)),
                              .op none none (.store 1 (.t 36) (.t 35))]) .skip)))) 
                    (.ops [.op none (some 37) (.bin .add .int (.t 16) (.c (.int .i64 1))),
                      .op none (some 16) (.mv (.t 37))]))))))) 
        (.seq 
          (.ops [.op none (some 38) (.mv (.t 9)),
            .op none (some 8) (.mv (.t 38))]) .ret)))) }
def v_acts_turned : Env := [(6, e_slices_Clone_byte_byte)]
def e_acts_turned : FEnt := .pure true (runOwn v_acts_turned i_acts_turned)

/- slices.Grow[[]byte,byte]: number 32 -/
def i_slices_Grow_byte_byte : IFun := { ntmps := 27, results := [.tmp 4], body := 
  (.seq 
    (.ops [.op none (some 4) (.mv (.c .nilsl))]) 
    (.seq 
      (.seq 
        (.ops [.op none (some 5) (.mv (.t 1)),
          .op none (some 6) (.bin .lss .int (.t 5) (.c (.int .i64 0)))]) 
        (.cond (.t 6) 
          (.ops [.op none (some 7) (.mkIface 9 (.c (.str [99, 97, 110, 110, 111, 116, 32, 98, 101, 32, 110, 101, 103, 97, 116, 105, 118, 101]))),
            .op none none (.stop)]) .skip)) 
      (.seq 
        (.seq 
          (.ops [.op none (some 8) (.mv (.t 1)),
            .op none (some 9) (.mv (.t 0)),
            .op none (some 10) (.cap (.t 9)),
            .op none (some 11) (.mv (.t 0)),
            .op none (some 12) (.len .slice (.t 11)),
            .op none (some 13) (.bin .sub .int (.t 10) (.t 12)),
            .op none (some 14) (.bin .sub .int (.t 8) (.t 13)),
            .op none (some 1) (.mv (.t 14))]) 
          (.seq 
            (.ops [.op none (some 15) (.mv (.t 1)),
              .op none (some 16) (.bin .gtr .int (.t 15) (.c (.int .i64 0)))]) 
            (.cond (.t 16) 
              (.ops [.op none (some 17) (.mv (.t 0)),
                .op none (some 18) (.mv (.t 0)),
                .op none (some 19) (.cap (.t 18)),
                .op none (some 20) (.slice false 1 (.t 17) none (some (.t 19)) none),
                .op none (some 21) (.mv (.t 1)),
                .op none (some 22) (.appendZ (.int .u8 0) 1 1 (.t 20) (.t 21)),
                .op none (some 23) (.mv (.t 0)),
                .op none (some 24) (.len .slice (.t 23)),
                .op none (some 25) (.slice false 1 (.t 22) none (some (.t 24)) none),
                .trunc 25,
                .op none (some 0) (.mv (.t 25))]) .skip))) 
        (.seq 
          (.ops [.op none (some 26) (.mv (.t 0)),
            .op none (some 4) (.mv (.t 26))]) .ret)))) }
def v_slices_Grow_byte_byte : Env := []
def e_slices_Grow_byte_byte : FEnt := .raw (runRaw v_slices_Grow_byte_byte i_slices_Grow_byte_byte)

/- slices.Concat[[]byte,byte]: number 29 -/
def i_slices_Concat_byte_byte : IFun := { ntmps := 36, results := [.tmp 2], body := 
  (.seq 
    (.ops [.op none (some 2) (.mv (.c .nilsl))]) 
    (.seq 
      (.ops [.op none (some 3) (.mv (.c (.int .i64 0)))]) 
      (.seq 
        (.seq 
          (.ops [.op none (some 9) (.mv (.t 0)),
            .op none (some 10) (.len .slice (.t 9)),
            .op none (some 11) (.mv (.c (.int .i64 0)))]) 
          (.block 0 
            (.loop 
              (.seq 
                (.ops [.op none (some 12) (.bin .lss .int (.t 11) (.t 10))]) 
                (.seq 
                  (.cond (.t 12) .skip (.exit 0)) 
                  (.seq 
                    (.block 1 
                      (.seq 
                        (.ops [.op none (some 13) (.indexAddr none 1 (.t 9) (.t 11)),
                          .op none (some 14) (.load false 1 (.t 13)),
                          .op none (some 5) (.mv (.t 14))]) 
                        (.seq 
                          (.ops [.op none (some 15) (.mv (.t 3)),
                            .op none (some 16) (.mv (.t 5)),
                            .op none (some 17) (.len .slice (.t 16)),
                            .op none (some 18) (.bin .add .int (.t 15) (.t 17)),
                            .op none (some 3) (.mv (.t 18))]) 
                          (.seq 
                            (.ops [.op none (some 19) (.mv (.t 3)),
                              .op none (some 20) (.bin .lss .int (.t 19) (.c (.int .i64 0)))]) 
                            (.cond (.t 20) 
                              (.ops [.op none (some 21) (.mkIface 9 (.c (.str [108, 101, 110, 32, 111, 117, 116, 32, 111, 102, 32, 114, 97, 110, 103, 101]))),
                                .op none none (.stop)]) .skip))))) 
                    (.ops [.op none (some 22) (.bin .add .int (.t 11) (.c (.int .i64 1))),
                      .op none (some 11) (.mv (.t 22))]))))))) 
        (.seq 
          (.ops [.op none (some 23) (.mv (.t 3)),
            .op none (some 24) (.call 32 .raw [(.c .nilsl), (.t 23)]),
            .op none (some 6) (.mv (.t 24))]) 
          (.seq 
            (.seq 
              (.ops [.op none (some 25) (.mv (.t 0)),
                .op none (some 26) (.len .slice (.t 25)),
                .op none (some 27) (.mv (.c (.int .i64 0)))]) 
              (.block 2 
                (.loop 
                  (.seq 
                    (.ops [.op none (some 28) (.bin .lss .int (.t 27) (.t 26))]) 
                    (.seq 
                      (.cond (.t 28) .skip (.exit 2)) 
                      (.seq 
                        (.block 3 
                          (.seq 
                            (.ops [.op none (some 29) (.indexAddr none 1 (.t 25) (.t 27)),
                              .op none (some 30) (.load false 1 (.t 29)),
                              .op none (some 8) (.mv (.t 30))]) 
                            (.ops [.op none (some 31) (.mv (.t 6)),
                              .op none (some 32) (.mv (.t 8)),
                              .op none (some 33) (.append 1 1 (.t 31) (.t 32)),
                              .op none (some 6) (.mv (.t 33))]))) 
                        (.ops [.op none (some 34) (.bin .add .int (.t 27) (.c (.int .i64 1))),
                          .op none (some 27) (.mv (.t 34))]))))))) 
            (.seq 
              (.ops [.op none (some 35) (.mv (.t 6)),
                .op none (some 2) (.mv (.t 35))]) .ret)))))) }
def v_slices_Concat_byte_byte : Env := [(32, e_slices_Grow_byte_byte)]
def e_slices_Concat_byte_byte : FEnt := .pure true (runOwn v_slices_Concat_byte_byte i_slices_Concat_byte_byte)

/- slices.Reverse[[]byte,byte]: number 28 -/
def i_slices_Reverse_byte_byte : IFun := { ntmps := 28, results := [], body := 
  (.seq 
    (.ops [.op none (some 4) (.mv (.t 0)),
      .op none (some 5) (.len .slice (.t 4)),
      .op none (some 6) (.bin .sub .int (.t 5) (.c (.int .i64 1))),
      .op none (some 2) (.mv (.c (.int .i64 0))),
      .op none (some 3) (.mv (.t 6))]) 
    (.block 0 
      (.loop 
        (.seq 
          (.seq 
            (.ops [.op none (some 7) (.mv (.t 2)),
              .op none (some 8) (.mv (.t 3)),
              .op none (some 9) (.bin .lss .int (.t 7) (.t 8))]) 
            (.cond (.t 9) .skip (.exit 0))) 
          (.seq 
            (.block 1 
              (.draw [([], .op none (some 14) (.mv (.t 0))),
                ([], .op none (some 15) (.mv (.t 2))),
                ([], .op none (some 16) (.mv (.t 0))),
                ([], .op none (some 17) (.mv (.t 3))),
                ([], .op none (some 18) (.mv (.t 0))),
                ([], .op none (some 19) (.mv (.t 3))),
                ([4, 5], .op none (some 20) (.indexAddr none 1 (.t 18) (.t 19))),
                ([6], .op none (some 21) (.load false 1 (.t 20))),
                ([], .op none (some 22) (.mv (.t 0))),
                ([], .op none (some 23) (.mv (.t 2))),
                ([8, 9], .op none (some 24) (.indexAddr none 1 (.t 22) (.t 23))),
                ([10], .op none (some 25) (.load false 1 (.t 24))),
                ([0, 1, 4, 5, 6, 7, 11], .op none (some 26) (.indexAddr none 1 (.t 14) (.t 15))),
                ([0, 1, 4, 5, 6, 7, 11, 12], .op none none (.store 1 (.t 26) (.t 21))),
                ([0, 1, 2, 3, 4, 5, 6, 7, 8, 9, 10, 11, 12, 13], .op none (some 27) (.indexAddr none 1 (.t 16) (.t 17))),
                ([0, 1, 2, 3, 4, 5, 6, 7, 8, 9, 10, 11, 12, 13, 14], .op none none (.store 1 (.t 27) (.t 25)))])) 
            (.ops [.op none (some 10) (.mv (.t 2)),
              .op none (some 11) (.bin .add .int (.t 10) (.c (.int .i64 1))),
              .op none (some 12) (.mv (.t 3)),
              .op none (some 13) (.bin .sub .int (.t 12) (.c (.int .i64 1))),
              .op none (some 2) (.mv (.t 11)),
              .op none (some 3) (.mv (.t 13))])))))) }
def v_slices_Reverse_byte_byte : Env := []
def e_slices_Reverse_byte_byte : FEnt := .raw (runRaw v_slices_Reverse_byte_byte i_slices_Reverse_byte_byte)

/- fettle/acts.step: number 25 -/
def i_acts_step : IFun := { ntmps := 78, results := [.tmp 6, .tmp 7], body := 
  (.seq 
    (.ops [.op none (some 3) (.box 3 (.t 0)),
      .op none (some 6) (.mv (.c .nilsl)),
      .op none (some 7) (.mv (.c (.bool false)))]) 
    (.seq 
      (.seq 
        (.ops [.op none (some 9) (.fieldAddr 0 (.t 3)),
          .op none (some 10) (.load false 1 (.t 9))]) 
        (.block 0 
          (.seq 
            (.ops [.op none (some 12) (.bin .eql .int (.t 10) (.c (.int .i64 1))),
              .op none (some 11) (.mv (.t 12))]) 
            (.cond (.t 11) 
              (.seq 
                (.ops [.op none (some 13) (.fieldAddr 2 (.t 3)),
                  .op none (some 14) (.load false 1 (.t 13)),
                  .op none (some 15) (.conv .strBytes (.t 14)),
                  .op none (some 6) (.mv (.t 15)),
                  .op none (some 7) (.mv (.c (.bool true)))]) .ret) 
              (.seq 
                (.ops [.op none (some 17) (.bin .eql .int (.t 10) (.c (.int .i64 2))),
                  .op none (some 16) (.mv (.t 17))]) 
                (.cond (.t 16) 
                  (.seq 
                    (.seq 
                      (.ops [.op none (some 18) (.fieldAddr 1 (.t 3)),
                        .op none (some 19) (.load false 1 (.t 18)),
                        .op none (some 20) (.mv (.t 1)),
                        .op none (some 21) (.len .slice (.t 20)),
                        .op none (some 22) (.bin .geq .int (.t 19) (.t 21))]) 
                      (.cond (.t 22) 
                        (.seq 
                          (.ops [.op none (some 6) (.mv (.c .nilsl)),
                            .op none (some 7) (.mv (.c (.bool false)))]) .ret) .skip)) 
                    (.seq 
                      (.ops [.op none (some 23) (.mv (.t 1)),
                        .op none (some 24) (.fieldAddr 1 (.t 3)),
                        .op none (some 25) (.load false 1 (.t 24)),
                        .op none (some 26) (.indexAddr none 1 (.t 23) (.t 25)),
                        .op none (some 27) (.load false 1 (.t 26)),
                        .op none (some 28) (.call 6 .own [(.t 27)]),
                        .op none (some 6) (.mv (.t 28)),
                        .op none (some 7) (.mv (.c (.bool true)))]) .ret)) 
                  (.seq 
                    (.ops [.op none (some 30) (.bin .eql .int (.t 10) (.c (.int .i64 3))),
                      .op none (some 29) (.mv (.t 30))]) 
                    (.cond (.t 29) 
                      (.seq 
                        (.ops [.op none (some 31) (.mv (.t 1)),
                          .op none (some 32) (.call 26 .own [(.t 31), (.c .nilsl)]),
                          .op none (some 6) (.mv (.t 32)),
                          .op none (some 7) (.mv (.c (.bool true)))]) .ret) 
                      (.seq 
                        (.ops [.op none (some 34) (.bin .eql .int (.t 10) (.c (.int .i64 4))),
                          .op none (some 33) (.mv (.t 34))]) 
                        (.cond (.t 33) 
                          (.seq 
                            (.ops [.op none (some 35) (.mv (.t 2)),
                              .op none (some 36) (.call 27 .own [(.t 35), (.c (.int .u8 97)), (.c (.int .u8 122)), (.c (.int .i64 (-32)))]),
                              .op none (some 6) (.mv (.t 36)),
                              .op none (some 7) (.mv (.c (.bool true)))]) .ret) 
                          (.seq 
                            (.ops [.op none (some 38) (.bin .eql .int (.t 10) (.c (.int .i64 5))),
                              .op none (some 37) (.mv (.t 38))]) 
                            (.cond (.t 37) 
                              (.seq 
                                (.ops [.op none (some 39) (.mv (.t 2)),
                                  .op none (some 40) (.call 27 .own [(.t 39), (.c (.int .u8 65)), (.c (.int .u8 90)), (.c (.int .i64 32))]),
                                  .op none (some 6) (.mv (.t 40)),
                                  .op none (some 7) (.mv (.c (.bool true)))]) .ret) 
                              (.seq 
                                (.ops [.op none (some 42) (.bin .eql .int (.t 10) (.c (.int .i64 6))),
                                  .op none (some 41) (.mv (.t 42))]) 
                                (.cond (.t 41) 
                                  (.seq 
                                    (.ops [.op none (some 43) (.mv (.t 2)),
                                      .op none (some 44) (.call 6 .own [(.t 43)]),
                                      .op none (some 8) (.mv (.t 44))]) 
                                    (.seq 
                                      (.ops [.op none (some 45) (.mv (.t 8)),
                                        .op none (some 46) (.call 28 .raw [(.t 45)])]) 
                                      (.seq 
                                        (.ops [.op none (some 47) (.mv (.t 8)),
                                          .op none (some 6) (.mv (.t 47)),
                                          .op none (some 7) (.mv (.c (.bool true)))]) .ret))) 
                                  (.seq 
                                    (.ops [.op none (some 49) (.bin .eql .int (.t 10) (.c (.int .i64 7))),
                                      .op none (some 48) (.mv (.t 49))]) 
                                    (.cond (.t 48) 
                                      (.seq 
                                        (.ops [.op none (some 50) (.mv (.t 2)),
                                          .op none (some 51) (.fieldAddr 1 (.t 3)),
                                          .op none (some 52) (.load false 1 (.t 51)),
                                          .op none (some 53) (.mv (.t 2)),
                                          .op none (some 54) (.len .slice (.t 53)),
                                          .op none (some 55) (.min (.t 52) (.t 54)),
                                          .op none (some 56) (.slice false 1 (.t 50) none (some (.t 55)) none),
                                          .op none (some 6) (.mv (.t 56)),
                                          .op none (some 7) (.mv (.c (.bool true)))]) .ret) 
                                      (.seq 
                                        (.ops [.op none (some 58) (.bin .eql .int (.t 10) (.c (.int .i64 8))),
                                          .op none (some 57) (.mv (.t 58))]) 
                                        (.cond (.t 57) 
                                          (.seq 
                                            (.ops [.op none (some 59) (.mv (.t 2)),
                                              .op none (some 60) (.fieldAddr 1 (.t 3)),
                                              .op none (some 61) (.load false 1 (.t 60)),
                                              .op none (some 62) (.mv (.t 2)),
                                              .op none (some 63) (.len .slice (.t 62)),
                                              .op none (some 64) (.min (.t 61) (.t 63)),
                                              .op none (some 65) (.slice false 1 (.t 59) (some (.t 64)) none none),
                                              .op none (some 6) (.mv (.t 65)),
                                              .op none (some 7) (.mv (.c (.bool true)))]) .ret) 
                                          (.seq 
                                            (.ops [.op none (some 67) (.bin .eql .int (.t 10) (.c (.int .i64 9))),
                                              .op none (some 66) (.mv (.t 67))]) 
                                            (.cond (.t 66) 
                                              (.seq 
                                                (.ops [.op none (some 68) (.mv (.t 2)),
                                                  .op none (some 69) (.mv (.t 2)),
                                                  .op none (some 70) (.buildSlice .nilsl 1 2 [(0, (.t 68)), (1, (.t 69))]),
                                                  .op none (some 71) (.call 29 .own [(.t 70)]),
                                                  .op none (some 6) (.mv (.t 71)),
                                                  .op none (some 7) (.mv (.c (.bool true)))]) .ret) 
                                              (.seq 
                                                (.ops [.op none (some 73) (.bin .eql .int (.t 10) (.c (.int .i64 10))),
                                                  .op none (some 72) (.mv (.t 73))]) 
                                                (.cond (.t 72) 
                                                  (.seq 
                                                    (.ops [.op none (some 74) (.mv (.t 2)),
                                                      .op none (some 75) (.fieldAddr 2 (.t 3)),
                                                      .op none (some 76) (.load false 1 (.t 75)),
                                                      .op none (some 77) (.call 30 .own [(.t 74), (.t 76)]),
                                                      .op none (some 6) (.mv (.t 77)),
                                                      .op none (some 7) (.mv (.c (.bool true)))]) .ret) .skip)))))))))))))))))))))) 
      (.seq 
        (.ops [.op none (some 6) (.mv (.c .nilsl)),
          .op none (some 7) (.mv (.c (.bool false)))]) .ret))) }
def v_acts_step : Env := [(26, e_bytes_Join), (30, e_acts_joined), (27, e_acts_turned), (6, e_slices_Clone_byte_byte), (29, e_slices_Concat_byte_byte), (28, e_slices_Reverse_byte_byte)]
def e_acts_step : FEnt := .pure false (runPure v_acts_step i_acts_step)

/- fettle/acts.Run: number 8 -/
def i_acts_Run : IFun := { ntmps := 39, results := [.tmp 4, .tmp 5], body := 
  (.seq 
    (.ops [.op none (some 4) (.mv (.c .nilsl)),
      .op none (some 5) (.mv (.c (.bool false)))]) 
    (.seq 
      (.seq 
        (.ops [.op none (some 11) (.mv (.t 0)),
          .op none (some 12) (.call 10 .pure [(.t 11)]),
          .op none (some 13) (.un .not (.t 12))]) 
        (.cond (.t 13) 
          (.seq 
            (.ops [.op none (some 4) (.mv (.c .nilsl)),
              .op none (some 5) (.mv (.c (.bool false)))]) .ret) .skip)) 
      (.seq 
        (.ops [.op none (some 6) (.mv (.c .nilsl))]) 
        (.seq 
          (.seq 
            (.ops [.op none (some 14) (.mv (.t 0)),
              .op none (some 15) (.len .slice (.t 14)),
              .op none (some 16) (.mv (.c (.int .i64 0)))]) 
            (.block 0 
              (.loop 
                (.seq 
                  (.ops [.op none (some 17) (.bin .lss .int (.t 16) (.t 15))]) 
                  (.seq 
                    (.cond (.t 17) .skip (.exit 0)) 
                    (.seq 
                      (.block 1 
                        (.seq 
                          (.ops [.op none (some 18) (.indexAddr none 3 (.t 14) (.t 16)),
                            .op none (some 19) (.load true 3 (.t 18)),
                            .op none (some 8) (.alloc (.agg [(.int .i64 0), (.int .i64 0), (.str [])]) 3),
                            .op none none (.store 3 (.t 8) (.t 19)),
                            .frz 8]) 
                          (.seq 
                            (.ops [.op none (some 21) (.load true 3 (.t 8)),
                              .op none (some 22) (.mv (.t 1)),
                              .op none (some 23) (.mv (.t 6)),
                              .op none (some 24) (.call 25 .pure [(.t 21), (.t 22), (.t 23)]),
                              .op none (some 20) (.mv (.t 24)),
                              .op none (some 25) (.extract (.t 20) 0),
                              .op none (some 26) (.extract (.t 20) 1),
                              .op none (some 9) (.mv (.t 25)),
                              .op none (some 10) (.mv (.t 26))]) 
                            (.seq 
                              (.seq 
                                (.ops [.op none (some 27) (.mv (.t 10)),
                                  .op none (some 28) (.un .not (.t 27)),
                                  .op none (some 29) (.mv (.t 28)),
                                  .op (some (29, false)) (some 30) (.mv (.t 9)),
                                  .op (some (29, false)) (some 31) (.len .slice (.t 30)),
                                  .op (some (29, false)) (some 32) (.bin .gtr .int (.t 31) (.c (.int .i64 256))),
                                  .op none (some 33) (.pick (.t 29) (.c (.bool true)) (.t 32))]) 
                                (.cond (.t 33) 
                                  (.seq 
                                    (.ops [.op none (some 4) (.mv (.c .nilsl)),
                                      .op none (some 5) (.mv (.c (.bool false)))]) .ret) .skip)) 
                              (.ops [.op none (some 34) (.mv (.t 9)),
                                .op none (some 6) (.mv (.t 34))]))))) 
                      (.ops [.op none (some 35) (.bin .add .int (.t 16) (.c (.int .i64 1))),
                        .op none (some 16) (.mv (.t 35))]))))))) 
          (.seq 
            (.ops [.op none (some 36) (.mv (.t 6)),
              .op none (some 37) (.call 6 .own [(.t 36)]),
              .op none (some 38) (.call 7 .raw [(.t 37)]),
              .op none (some 4) (.mv (.t 38)),
              .op none (some 5) (.mv (.c (.bool true)))]) .ret))))) }
def v_acts_Run : Env := [(10, e_acts_Ok), (25, e_acts_step), (7, e_slices_Clip_byte_byte), (6, e_slices_Clone_byte_byte)]
def e_acts_Run : FEnt := .pure true (runOwn v_acts_Run i_acts_Run)

/- fettle/fettlelaw6.awake: number 3 -/
def i_fettlelaw6_awake : IFun := { ntmps := 87, results := [.tmp 0], body := 
  (.seq 
    (.ops [.op none (some 0) (.mv (.c (.bool false)))]) 
    (.seq 
      (.ops [.op none (some 10) (.build [(.int .i64 0), (.int .i64 0), (.str [])] [(0, 1, (.c (.int .i64 3)))]),
        .op none (some 11) (.build [(.int .i64 0), (.int .i64 0), (.str [])] [(0, 1, (.c (.int .i64 4)))]),
        .op none (some 12) (.build [(.int .i64 0), (.int .i64 0), (.str [])] [(0, 1, (.c (.int .i64 10))), (2, 1, (.c (.str [45])))]),
        .op none (some 13) (.buildSlice (.agg [(.int .i64 0), (.int .i64 0), (.str [])]) 3 3 [(0, (.t 10)), (1, (.t 11)), (2, (.t 12))]),
        .op none (some 1) (.mv (.t 13))]) 
      (.seq 
        (.ops [.op none (some 15) (.mv (.t 1)),
          .op none (some 16) (.buildSlice (.int .u8 0) 1 2 [(0, (.c (.int .u8 97))), (1, (.c (.int .u8 98)))]),
          .op none (some 17) (.conv .mark (.t 16)),
          .op none (some 18) (.buildSlice (.int .u8 0) 1 1 [(0, (.c (.int .u8 99)))]),
          .op none (some 19) (.conv .mark (.t 18)),
          .op none (some 20) (.buildSlice .nilsl 1 2 [(0, (.t 17)), (1, (.t 19))]),
          .op none (some 21) (.call 8 .own [(.t 15), (.t 20)]),
          .op none (some 14) (.mv (.t 21)),
          .op none (some 22) (.extract (.t 14) 0),
          .op none (some 23) (.extract (.t 14) 1),
          .op none (some 2) (.mv (.t 22)),
          .op none (some 3) (.mv (.t 23))]) 
        (.seq 
          (.ops [.op none (some 25) (.build [(.str []), (.int .i64 0), (.int .i64 0), (.bool false)] [(0, 1, (.c (.str [105, 110])))]),
            .op none (some 26) (.build [(.str []), (.int .i64 0), (.int .i64 0), (.bool false)] [(0, 1, (.c (.str [49])))]),
            .op none (some 27) (.build [(.str []), (.int .i64 0), (.int .i64 0), (.bool false)] [(0, 1, (.c (.str [59])))]),
            .op none (some 28) (.build [(.str []), (.int .i64 0), (.int .i64 0), (.bool false)] [(0, 1, (.c (.str [114, 101, 118])))]),
            .op none (some 29) (.buildSlice (.agg [(.str []), (.int .i64 0), (.int .i64 0), (.bool false)]) 4 4 [(0, (.t 25)), (1, (.t 26)), (2, (.t 27)), (3, (.t 28))]),
            .op none (some 30) (.call 9 .pure [(.t 29)]),
            .op none (some 24) (.mv (.t 30)),
            .op none (some 31) (.extract (.t 24) 0),
            .op none (some 32) (.extract (.t 24) 1),
            .op none (some 4) (.mv (.t 31)),
            .op none (some 5) (.mv (.t 32))]) 
          (.seq 
            (.ops [.op none (some 34) (.build [(.str []), (.int .i64 0), (.int .i64 0), (.bool false)] [(0, 1, (.c (.str [117, 112, 112, 101, 114])))]),
              .op none (some 35) (.buildSlice (.agg [(.str []), (.int .i64 0), (.int .i64 0), (.bool false)]) 4 1 [(0, (.t 34))]),
              .op none (some 36) (.call 9 .pure [(.t 35)]),
              .op none (some 33) (.mv (.t 36)),
              .op none (some 37) (.extract (.t 33) 0),
              .op none (some 38) (.extract (.t 33) 1),
              .op none (some 6) (.mv (.t 37)),
              .op none (some 7) (.mv (.t 38))]) 
            (.seq 
              (.ops [.op none (some 40) (.build [(.int .i64 0), (.int .i64 0), (.str [])] [(0, 1, (.c (.int .i64 2))), (1, 1, (.c (.int .i64 2)))]),
                .op none (some 41) (.buildSlice (.agg [(.int .i64 0), (.int .i64 0), (.str [])]) 3 1 [(0, (.t 40))]),
                .op none (some 42) (.call 8 .own [(.t 41), (.c .nilsl)]),
                .op none (some 39) (.mv (.t 42)),
                .op none (some 43) (.extract (.t 39) 0),
                .op none (some 44) (.extract (.t 39) 1),
                .op none (some 8) (.mv (.t 43)),
                .op none (some 9) (.mv (.t 44))]) 
              (.seq 
                (.ops [.op none (some 45) (.mv (.t 3)),
                  .op none (some 46) (.mv (.t 45)),
                  .op (some (46, true)) (some 47) (.mv (.t 2)),
                  .op (some (46, true)) (some 48) (.conv .bytesStr (.t 47)),
                  .op (some (46, true)) (some 49) (.bin .eql .str (.t 48) (.c (.str [65, 45, 66, 45, 67]))),
                  .op none (some 50) (.pick (.t 46) (.t 49) (.c (.bool false))),
                  .op none (some 51) (.mv (.t 50)),
                  .op (some (51, true)) (some 52) (.mv (.t 5)),
                  .op none (some 53) (.pick (.t 51) (.t 52) (.c (.bool false))),
                  .op none (some 54) (.mv (.t 53)),
                  .op (some (54, true)) (some 55) (.mv (.t 4)),
                  .op (some (54, true)) (some 56) (.len .slice (.t 55)),
                  .op (some (54, true)) (some 57) (.bin .eql .int (.t 56) (.c (.int .i64 2))),
                  .op none (some 58) (.pick (.t 54) (.t 57) (.c (.bool false))),
                  .op none (some 59) (.mv (.t 58)),
                  .op (some (59, true)) (some 60) (.mv (.t 4)),
                  .op (some (59, true)) (some 61) (.indexAddr none 3 (.t 60) (.c (.int .i64 0))),
                  .op (some (59, true)) (some 62) (.load true 3 (.t 61)),
                  .op (some (59, true)) (some 63) (.build [(.int .i64 0), (.int .i64 0), (.str [])] [(0, 1, (.c (.int .i64 2))), (1, 1, (.c (.int .i64 1)))]),
                  .op (some (59, true)) (some 64) (.bin .eql (.agg [0, 0, 2]) (.t 62) (.t 63)),
                  .op none (some 65) (.pick (.t 59) (.t 64) (.c (.bool false))),
                  .op none (some 66) (.mv (.t 65)),
                  .op (some (66, true)) (some 67) (.mv (.t 7)),
                  .op (some (66, true)) (some 68) (.un .not (.t 67)),
                  .op none (some 69) (.pick (.t 66) (.t 68) (.c (.bool false))),
                  .op none (some 70) (.mv (.t 69)),
                  .op (some (70, true)) (some 71) (.mv (.t 9)),
                  .op (some (70, true)) (some 72) (.un .not (.t 71)),
                  .op none (some 73) (.pick (.t 70) (.t 72) (.c (.bool false))),
                  .op none (some 74) (.mv (.t 73)),
                  .op (some (74, true)) (some 75) (.mv (.t 1)),
                  .op (some (74, true)) (some 76) (.call 10 .pure [(.t 75)]),
                  .op none (some 77) (.pick (.t 74) (.t 76) (.c (.bool false))),
                  .op none (some 78) (.mv (.t 77)),
                  .op (some (78, true)) (some 79) (.call 10 .pure [(.c .nilsl)]),
                  .op (some (78, true)) (some 80) (.un .not (.t 79)),
                  .op none (some 81) (.pick (.t 78) (.t 80) (.c (.bool false))),
                  .op none (some 82) (.mv (.t 81)),
                  .op (some (82, true)) (some 83) (.call 1 .own [(.c .nilsl)]),
                  .op (some (82, true)) (some 84) (.len .slice (.t 83)),
                  .op (some (82, true)) (some 85) (.bin .eql .int (.t 84) (.c (.int .i64 6))),
                  .op none (some 86) (.pick (.t 82) (.t 85) (.c (.bool false))),
                  .op none (some 0) (.mv (.t 86))]) .ret))))))) }
def v_fettlelaw6_awake : Env := [(1, e_acts_Bytes), (10, e_acts_Ok), (9, e_acts_Parse), (8, e_acts_Run)]
def e_fettlelaw6_awake : FEnt := .pure false (runPure v_fettlelaw6_awake i_fettlelaw6_awake)

/- fettle/fettleref4.SameAct: number 2 -/
def i_fettleref4_SameAct : IFun := { ntmps := 26, results := [.tmp 4], body := 
  (.seq 
    (.ops [.op none (some 4) (.mv (.c (.bool false)))]) 
    (.seq 
      (.seq 
        (.ops [.op none (some 6) (.mv (.t 0)),
          .op none (some 7) (.len .slice (.t 6)),
          .op none (some 8) (.mv (.t 1)),
          .op none (some 9) (.len .slice (.t 8)),
          .op none (some 10) (.bin .neq .int (.t 7) (.t 9))]) 
        (.cond (.t 10) 
          (.seq 
            (.ops [.op none (some 4) (.mv (.c (.bool false)))]) .ret) .skip)) 
      (.seq 
        (.seq 
          (.ops [.op none (some 5) (.mv (.c (.int .i64 0)))]) 
          (.block 0 
            (.loop 
              (.seq 
                (.seq 
                  (.ops [.op none (some 11) (.mv (.t 5)),
                    .op none (some 12) (.mv (.t 0)),
                    .op none (some 13) (.len .slice (.t 12)),
                    .op none (some 14) (.bin .lss .int (.t 11) (.t 13))]) 
                  (.cond (.t 14) .skip (.exit 0))) 
                (.seq 
                  (.block 1 
                    (.seq 
                      (.draw [([], .op none (some 17) (.mv (.t 0))),
                        ([], .op none (some 18) (.mv (.t 5))),
                        ([0, 1], .op none (some 19) (.indexAddr none 3 (.t 17) (.t 18))),
                        ([2], .op none (some 20) (.load true 3 (.t 19))),
                        ([], .op none (some 21) (.mv (.t 1))),
                        ([], .op none (some 22) (.mv (.t 5))),
                        ([4, 5], .op none (some 23) (.indexAddr none 3 (.t 21) (.t 22))),
                        ([6], .op none (some 24) (.load true 3 (.t 23))),
                        ([3, 7], .op none (some 25) (.bin .neq (.agg [0, 0, 2]) (.t 20) (.t 24)))]) 
                      (.cond (.t 25) 
                        (.seq 
                          (.ops [.op none (some 4) (.mv (.c (.bool false)))]) .ret) .skip))) 
                  (.ops [.op none (some 15) (.mv (.t 5)),
                    .op none (some 16) (.bin .add .int (.t 15) (.c (.int .i64 1))),
                    .op none (some 5) (.mv (.t 16))])))))) 
        (.seq 
          (.ops [.op none (some 4) (.mv (.c (.bool true)))]) .ret)))) }
def v_fettleref4_SameAct : Env := []
def e_fettleref4_SameAct : FEnt := .pure false (runPure v_fettleref4_SameAct i_fettleref4_SameAct)

/- fettle/fettlelaw6.ActsApart: number 33 -/
def i_fettlelaw6_ActsApart : IFun := { ntmps := 53, results := [.tmp 8], body := 
  (.seq 
    (.ops [.op none (some 8) (.mv (.c (.bool false)))]) 
    (.seq 
      (.ops [.op none (some 12) (.mv (.t 0)),
        .op none (some 13) (.call 0 .own [(.t 12)]),
        .op none (some 14) (.mv (.t 1)),
        .op none (some 15) (.call 0 .own [(.t 14)]),
        .op none (some 9) (.mv (.t 13)),
        .op none (some 10) (.mv (.t 15))]) 
      (.seq 
        (.seq 
          (.ops [.op none (some 16) (.mv (.t 3))]) 
          (.cond (.t 16) 
            (.seq 
              (.ops [.op none (some 17) (.buildSlice (.agg [(.int .i64 0), (.int .i64 0), (.str [])]) 3 0 []),
                .op none (some 18) (.mv (.t 9)),
                .op none (some 19) (.append 3 32 (.t 17) (.t 18)),
                .op none (some 10) (.mv (.t 19))]) 
              (.seq 
                (.ops [.op none (some 20) (.mv (.t 2)),
                  .op none (some 21) (.bin .and .int (.t 20) (.c (.int .i64 255))),
                  .op none (some 22) (.mv (.t 10)),
                  .op none (some 23) (.len .slice (.t 22)),
                  .op none (some 24) (.bin .rem .int (.t 21) (.t 23)),
                  .op none (some 11) (.mv (.t 24))]) 
                (.seq 
                  (.ops [.op none (some 25) (.mv (.t 2)),
                    .op none (some 26) (.bin .shr .int (.t 25) (.c (.int .u64 8))),
                    .op none (some 27) (.bin .and .int (.t 26) (.c (.int .i64 1))),
                    .op none (some 28) (.bin .eql .int (.t 27) (.c (.int .i64 1)))]) 
                  (.cond (.t 28) 
                    (.ops [.op none (some 29) (.mv (.t 10)),
                      .op none (some 30) (.mv (.t 11)),
                      .op none (some 31) (.mv (.t 10)),
                      .op none (some 32) (.mv (.t 11)),
                      .op none (some 33) (.indexAddr none 3 (.t 31) (.t 32)),
                      .op none (some 34) (.fieldAddr 1 (.t 33)),
                      .op none (some 35) (.load false 1 (.t 34)),
                      .op none (some 36) (.bin .add .int (.t 35) (.c (.int .i64 1))),
                      .op none (some 37) (.indexAddr none 3 (.t 29) (.t 30)),
                      .op none (some 38) (.fieldAddr 1 (.t 37)),
                      .op none none (.store 1 (.t 38) (.t 36))]) .skip)))) .skip)) 
        (.seq 
          (.draw [([], .op none (some 39) (.mv (.t 9))),
            ([0], .op none (some 40) (.call 1 .pure [(.t 39)])),
            ([1], .op none (some 41) (.conv .bytesStr (.t 40))),
            ([], .op none (some 42) (.mv (.t 10))),
            ([1, 3], .op none (some 43) (.call 1 .pure [(.t 42)])),
            ([4], .op none (some 44) (.conv .bytesStr (.t 43))),
            ([2, 5], .op none (some 45) (.bin .eql .str (.t 41) (.t 44))),
            ([], .op none (some 46) (.mv (.t 9))),
            ([], .op none (some 47) (.mv (.t 10))),
            ([4, 7, 8], .op none (some 48) (.call 2 .pure [(.t 46), (.t 47)])),
            ([6, 9], .op none (some 49) (.bin .eql .bool (.t 45) (.t 48))),
            ([9, 10], .op none (some 50) (.mv (.t 49))),
            ([11], .op (some (50, true)) (some 51) (.call 3 .pure [])),
            ([11, 12], .op none (some 52) (.pick (.t 50) (.t 51) (.c (.bool false)))),
            ([0, 1, 2, 3, 4, 5, 6, 7, 8, 9, 10, 11, 12, 13], .op none (some 8) (.mv (.t 52)))]) .ret)))) }
def v_fettlelaw6_ActsApart : Env := [(1, e_acts_Bytes), (0, e_fettlelaw6_Act), (3, e_fettlelaw6_awake), (2, e_fettleref4_SameAct)]
def e_fettlelaw6_ActsApart : FEnt := .pure false (runPure v_fettlelaw6_ActsApart i_fettlelaw6_ActsApart)

/- fettle/fettlelaw6.ActsOwn: number 34 -/
def i_fettlelaw6_ActsOwn : IFun := { ntmps := 88, results := [.tmp 4], body := 
  (.seq 
    (.ops [.op none (some 4) (.mv (.c (.bool false)))]) 
    (.seq 
      (.seq 
        (.ops [.op none (some 15) (.mv (.t 1)),
          .op none (some 16) (.len .slice (.t 15)),
          .op none (some 17) (.bin .gtr .int (.t 16) (.c (.int .i64 8)))]) 
        (.cond (.t 17) 
          (.seq 
            (.ops [.op none (some 18) (.call 3 .pure []),
              .op none (some 4) (.mv (.t 18))]) .ret) .skip)) 
      (.seq 
        (.ops [.op none (some 5) (.mv (.c .nilsl))]) 
        (.seq 
          (.seq 
            (.ops [.op none (some 19) (.mv (.t 1)),
              .op none (some 20) (.len .slice (.t 19)),
              .op none (some 21) (.mv (.c (.int .i64 0)))]) 
            (.block 0 
              (.loop 
                (.seq 
                  (.ops [.op none (some 22) (.bin .lss .int (.t 21) (.t 20))]) 
                  (.seq 
                    (.cond (.t 22) .skip (.exit 0)) 
                    (.seq 
                      (.block 1 
                        (.seq 
                          (.ops [.op none (some 23) (.indexAddr none 1 (.t 19) (.t 21)),
                            .op none (some 24) (.load false 1 (.t 23)),
                            .op none (some 7) (.mv (.t 24))]) 
                          (.seq 
                            (.seq 
                              (.ops [.op none (some 25) (.mv (.t 7)),
                                .op none (some 26) (.len .slice (.t 25)),
                                .op none (some 27) (.bin .gtr .int (.t 26) (.c (.int .i64 256)))]) 
                              (.cond (.t 27) 
                                (.seq 
                                  (.ops [.op none (some 28) (.call 3 .pure []),
                                    .op none (some 4) (.mv (.t 28))]) .ret) .skip)) 
                            (.ops [.op none (some 29) (.mv (.t 5)),
                              .op none (some 30) (.mv (.t 7)),
                              .op none (some 31) (.conv .bytesStr (.t 30)),
                              .op none (some 32) (.buildSlice (.str []) 1 1 [(0, (.t 31))]),
                              .op none (some 33) (.append 1 16 (.t 29) (.t 32)),
                              .op none (some 5) (.mv (.t 33))])))) 
                      (.ops [.op none (some 34) (.bin .add .int (.t 21) (.c (.int .i64 1))),
                        .op none (some 21) (.mv (.t 34))]))))))) 
          (.seq 
            (.seq 
              (.ops [.op none (some 35) (.mv (.t 0)),
                .op none (some 36) (.call 0 .own [(.t 35)]),
                .op none (some 37) (.build [(.int .i64 0), (.int .i64 0), (.str [])] [(0, 1, (.c (.int .i64 2)))]),
                .op none (some 38) (.buildSlice (.agg [(.int .i64 0), (.int .i64 0), (.str [])]) 3 1 [(0, (.t 37))]),
                .op none (some 39) (.build [(.int .i64 0), (.int .i64 0), (.str [])] [(0, 1, (.c (.int .i64 3)))]),
                .op none (some 40) (.buildSlice (.agg [(.int .i64 0), (.int .i64 0), (.str [])]) 3 1 [(0, (.t 39))]),
                .op none (some 41) (.build [(.int .i64 0), (.int .i64 0), (.str [])] [(0, 1, (.c (.int .i64 2)))]),
                .op none (some 42) (.build [(.int .i64 0), (.int .i64 0), (.str [])] [(0, 1, (.c (.int .i64 7))), (1, 1, (.c (.int .i64 99)))]),
                .op none (some 43) (.buildSlice (.agg [(.int .i64 0), (.int .i64 0), (.str [])]) 3 2 [(0, (.t 41)), (1, (.t 42))]),
                .op none (some 44) (.buildSlice .nilsl 1 4 [(0, (.t 36)), (1, (.t 38)), (2, (.t 40)), (3, (.t 43))]),
                .op none (some 45) (.len .slice (.t 44)),
                .op none (some 46) (.mv (.c (.int .i64 0)))]) 
              (.block 2 
                (.loop 
                  (.seq 
                    (.ops [.op none (some 47) (.bin .lss .int (.t 46) (.t 45))]) 
                    (.seq 
                      (.cond (.t 47) .skip (.exit 2)) 
                      (.seq 
                        (.block 3 
                          (.seq 
                            (.ops [.op none (some 48) (.indexAddr none 1 (.t 44) (.t 46)),
                              .op none (some 49) (.load false 1 (.t 48)),
                              .op none (some 9) (.mv (.t 49))]) 
                            (.seq 
                              (.ops [.op none (some 51) (.mv (.t 9)),
                                .op none (some 52) (.mv (.t 1)),
                                .op none (some 53) (.call 8 .own [(.t 51), (.t 52)]),
                                .op none (some 50) (.mv (.t 53)),
                                .op none (some 54) (.extract (.t 50) 0),
                                .op none (some 55) (.extract (.t 50) 1),
                                .op none (some 10) (.mv (.t 54)),
                                .op none (some 11) (.mv (.t 55))]) 
                              (.seq 
                                (.seq 
                                  (.ops [.op none (some 56) (.mv (.t 10)),
                                    .op none (some 57) (.len .slice (.t 56)),
                                    .op none (some 58) (.mv (.c (.int .i64 0)))]) 
                                  (.block 4 
                                    (.loop 
                                      (.seq 
                                        (.ops [.op none (some 59) (.bin .lss .int (.t 58) (.t 57))]) 
                                        (.seq 
                                          (.cond (.t 59) .skip (.exit 4)) 
                                          (.seq 
                                            (.block 5 
                                              (.seq 
                                                (.ops [.op none (some 60) (.mv (.t 58)),
                                                  .op none (some 12) (.mv (.t 60))]) 
                                                (.ops [.op none (some 61) (.mv (.t 10)),
                                                  .op none (some 62) (.mv (.t 12)),
                                                  .op none (some 63) (.indexAddr none 1 (.t 61) (.t 62)),
                                                  .op none (some 64) (.load false 1 (.t 63)),
                                                  .op none (some 65) (.bin .add .int (.t 64) (.c (.int .u8 1))),
                                                  .op none (some 66) (.indexAddr none 1 (.t 61) (.t 62)),
                                                  .op none none (.store 1 (.t 66) (.t 65))]))) 
                                            (.ops [.op none (some 67) (.bin .add .int (.t 58) (.c (.int .i64 1))),
                                              .op none (some 58) (.mv (.t 67))]))))))) 
                                (.seq 
                                  (.ops [.op none (some 68) (.mv (.t 10)),
                                    .op none (some 69) (.buildSlice (.int .u8 0) 1 3 [(0, (.c (.int .u8 1))), (1, (.c (.int .u8 2))), (2, (.c (.int .u8 3)))]),
                                    .op none (some 70) (.append 1 1 (.t 68) (.t 69)),
                                    .op none (some 10) (.mv (.t 70))]) 
                                  (.seq 
                                    (.ops [.op none (some 71) (.mv (.t 1)),
                                      .op none (some 72) (.len .slice (.t 71)),
                                      .op none (some 73) (.mv (.c (.int .i64 0)))]) 
                                    (.block 6 
                                      (.loop 
                                        (.seq 
                                          (.ops [.op none (some 74) (.bin .lss .int (.t 73) (.t 72))]) 
                                          (.seq 
                                            (.cond (.t 74) .skip (.exit 6)) 
                                            (.seq 
                                              (.block 7 
                                                (.seq 
                                                  (.ops [.op none (some 75) (.mv (.t 73)),
                                                    .op none (some 76) (.indexAddr none 1 (.t 71) (.t 73)),
                                                    .op none (some 77) (.load false 1 (.t 76)),
                                                    .op none (some 13) (.mv (.t 75)),
                                                    .op none (some 14) (.mv (.t 77))]) 
                                                  (.seq 
                                                    (.draw [([], .op none (some 78) (.mv (.t 14))),
                                                      ([0], .op none (some 79) (.conv .bytesStr (.t 78))),
                                                      ([], .op none (some 80) (.mv (.t 5))),
                                                      ([], .op none (some 81) (.mv (.t 13))),
                                                      ([2, 3], .op none (some 82) (.indexAddr none 1 (.t 80) (.t 81))),
                                                      ([4], .op none (some 83) (.load false 1 (.t 82))),
                                                      ([1, 5], .op none (some 84) (.bin .neq .str (.t 79) (.t 83)))]) 
                                                    (.cond (.t 84) 
                                                      (.seq 
                                                        (.ops [.op none (some 4) (.mv (.c (.bool false)))]) .ret) .skip)))) 
                                              (.ops [.op none (some 85) (.bin .add .int (.t 73) (.c (.int .i64 1))),
                                                .op none (some 73) (.mv (.t 85))])))))))))))) 
                        (.ops [.op none (some 86) (.bin .add .int (.t 46) (.c (.int .i64 1))),
                          .op none (some 46) (.mv (.t 86))]))))))) 
            (.seq 
              (.ops [.op none (some 87) (.call 3 .pure []),
                .op none (some 4) (.mv (.t 87))]) .ret)))))) }
def v_fettlelaw6_ActsOwn : Env := [(8, e_acts_Run), (0, e_fettlelaw6_Act), (3, e_fettlelaw6_awake)]
def e_fettlelaw6_ActsOwn : FEnt := .pure false (runPure v_fettlelaw6_ActsOwn i_fettlelaw6_ActsOwn)

/- fettle/fettlelaw6.ActsForms: number 35 -/
def i_fettlelaw6_ActsForms : IFun := { ntmps := 113, results := [.tmp 2], body := 
  (.seq 
    (.ops [.op none (some 2) (.mv (.c (.bool false)))]) 
    (.seq 
      (.ops [.op none (some 7) (.build [.nilsl, (.str []), (.bool false)] [(0, 1, (.c .nilsl)), (1, 1, (.c (.str []))), (2, 1, (.c (.bool false)))]),
        .op none (some 8) (.build [(.int .i64 0), (.int .i64 0), (.str [])] [(0, 1, (.c (.int .i64 1))), (2, 1, (.c (.str [113])))]),
        .op none (some 9) (.buildSlice (.agg [(.int .i64 0), (.int .i64 0), (.str [])]) 3 1 [(0, (.t 8))]),
        .op none (some 10) (.build [.nilsl, (.str []), (.bool false)] [(0, 1, (.t 9)), (1, 1, (.c (.str [113]))), (2, 1, (.c (.bool true)))]),
        .op none (some 11) (.build [(.int .i64 0), (.int .i64 0), (.str [])] [(0, 1, (.c (.int .i64 2)))]),
        .op none (some 12) (.buildSlice (.agg [(.int .i64 0), (.int .i64 0), (.str [])]) 3 1 [(0, (.t 11))]),
        .op none (some 13) (.build [.nilsl, (.str []), (.bool false)] [(0, 1, (.t 12)), (1, 1, (.c (.str [97, 66]))), (2, 1, (.c (.bool true)))]),
        .op none (some 14) (.build [(.int .i64 0), (.int .i64 0), (.str [])] [(0, 1, (.c (.int .i64 2))), (1, 1, (.c (.int .i64 1)))]),
        .op none (some 15) (.buildSlice (.agg [(.int .i64 0), (.int .i64 0), (.str [])]) 3 1 [(0, (.t 14))]),
        .op none (some 16) (.build [.nilsl, (.str []), (.bool false)] [(0, 1, (.t 15)), (1, 1, (.c (.str [99, 100, 101]))), (2, 1, (.c (.bool true)))]),
        .op none (some 17) (.build [(.int .i64 0), (.int .i64 0), (.str [])] [(0, 1, (.c (.int .i64 2))), (1, 1, (.c (.int .i64 2)))]),
        .op none (some 18) (.buildSlice (.agg [(.int .i64 0), (.int .i64 0), (.str [])]) 3 1 [(0, (.t 17))]),
        .op none (some 19) (.build [.nilsl, (.str []), (.bool false)] [(0, 1, (.t 18)), (1, 1, (.c (.str []))), (2, 1, (.c (.bool false)))]),
        .op none (some 20) (.build [(.int .i64 0), (.int .i64 0), (.str [])] [(0, 1, (.c (.int .i64 3)))]),
        .op none (some 21) (.buildSlice (.agg [(.int .i64 0), (.int .i64 0), (.str [])]) 3 1 [(0, (.t 20))]),
        .op none (some 22) (.build [.nilsl, (.str []), (.bool false)] [(0, 1, (.t 21)), (1, 1, (.c (.str [97, 66, 99, 100, 101]))), (2, 1, (.c (.bool true)))]),
        .op none (some 23) (.build [(.int .i64 0), (.int .i64 0), (.str [])] [(0, 1, (.c (.int .i64 3)))]),
        .op none (some 24) (.build [(.int .i64 0), (.int .i64 0), (.str [])] [(0, 1, (.c (.int .i64 4)))]),
        .op none (some 25) (.buildSlice (.agg [(.int .i64 0), (.int .i64 0), (.str [])]) 3 2 [(0, (.t 23)), (1, (.t 24))]),
        .op none (some 26) (.build [.nilsl, (.str []), (.bool false)] [(0, 1, (.t 25)), (1, 1, (.c (.str [65, 66, 67, 68, 69]))), (2, 1, (.c (.bool true)))]),
        .op none (some 27) (.build [(.int .i64 0), (.int .i64 0), (.str [])] [(0, 1, (.c (.int .i64 3)))]),
        .op none (some 28) (.build [(.int .i64 0), (.int .i64 0), (.str [])] [(0, 1, (.c (.int .i64 5)))]),
        .op none (some 29) (.build [(.int .i64 0), (.int .i64 0), (.str [])] [(0, 1, (.c (.int .i64 6)))]),
        .op none (some 30) (.buildSlice (.agg [(.int .i64 0), (.int .i64 0), (.str [])]) 3 3 [(0, (.t 27)), (1, (.t 28)), (2, (.t 29))]),
        .op none (some 31) (.build [.nilsl, (.str []), (.bool false)] [(0, 1, (.t 30)), (1, 1, (.c (.str [101, 100, 99, 98, 97]))), (2, 1, (.c (.bool true)))]),
        .op none (some 32) (.build [(.int .i64 0), (.int .i64 0), (.str [])] [(0, 1, (.c (.int .i64 3)))]),
        .op none (some 33) (.build [(.int .i64 0), (.int .i64 0), (.str [])] [(0, 1, (.c (.int .i64 7))), (1, 1, (.c (.int .i64 2)))]),
        .op none (some 34) (.buildSlice (.agg [(.int .i64 0), (.int .i64 0), (.str [])]) 3 2 [(0, (.t 32)), (1, (.t 33))]),
        .op none (some 35) (.build [.nilsl, (.str []), (.bool false)] [(0, 1, (.t 34)), (1, 1, (.c (.str [97, 66]))), (2, 1, (.c (.bool true)))]),
        .op none (some 36) (.build [(.int .i64 0), (.int .i64 0), (.str [])] [(0, 1, (.c (.int .i64 3)))]),
        .op none (some 37) (.build [(.int .i64 0), (.int .i64 0), (.str [])] [(0, 1, (.c (.int .i64 8))), (1, 1, (.c (.int .i64 4)))]),
        .op none (some 38) (.buildSlice (.agg [(.int .i64 0), (.int .i64 0), (.str [])]) 3 2 [(0, (.t 36)), (1, (.t 37))]),
        .op none (some 39) (.build [.nilsl, (.str []), (.bool false)] [(0, 1, (.t 38)), (1, 1, (.c (.str [101]))), (2, 1, (.c (.bool true)))]),
        .op none (some 40) (.build [(.int .i64 0), (.int .i64 0), (.str [])] [(0, 1, (.c (.int .i64 3)))]),
        .op none (some 41) (.build [(.int .i64 0), (.int .i64 0), (.str [])] [(0, 1, (.c (.int .i64 8))), (1, 1, (.c (.int .i64 9)))]),
        .op none (some 42) (.buildSlice (.agg [(.int .i64 0), (.int .i64 0), (.str [])]) 3 2 [(0, (.t 40)), (1, (.t 41))]),
        .op none (some 43) (.build [.nilsl, (.str []), (.bool false)] [(0, 1, (.t 42)), (1, 1, (.c (.str []))), (2, 1, (.c (.bool true)))]),
        .op none (some 44) (.build [(.int .i64 0), (.int .i64 0), (.str [])] [(0, 1, (.c (.int .i64 2)))]),
        .op none (some 45) (.build [(.int .i64 0), (.int .i64 0), (.str [])] [(0, 1, (.c (.int .i64 9)))]),
        .op none (some 46) (.buildSlice (.agg [(.int .i64 0), (.int .i64 0), (.str [])]) 3 2 [(0, (.t 44)), (1, (.t 45))]),
        .op none (some 47) (.build [.nilsl, (.str []), (.bool false)] [(0, 1, (.t 46)), (1, 1, (.c (.str [97, 66, 97, 66]))), (2, 1, (.c (.bool true)))]),
        .op none (some 48) (.build [(.int .i64 0), (.int .i64 0), (.str [])] [(0, 1, (.c (.int .i64 2))), (1, 1, (.c (.int .i64 1)))]),
        .op none (some 49) (.build [(.int .i64 0), (.int .i64 0), (.str [])] [(0, 1, (.c (.int .i64 10))), (2, 1, (.c (.str [44, 32])))]),
        .op none (some 50) (.buildSlice (.agg [(.int .i64 0), (.int .i64 0), (.str [])]) 3 2 [(0, (.t 48)), (1, (.t 49))]),
        .op none (some 51) (.build [.nilsl, (.str []), (.bool false)] [(0, 1, (.t 50)), (1, 1, (.c (.str [99, 44, 32, 100, 44, 32, 101]))), (2, 1, (.c (.bool true)))]),
        .op none (some 52) (.build [(.int .i64 0), (.int .i64 0), (.str [])] [(0, 1, (.c (.int .i64 2)))]),
        .op none (some 53) (.build [(.int .i64 0), (.int .i64 0), (.str [])] [(0, 1, (.c (.int .i64 11)))]),
        .op none (some 54) (.buildSlice (.agg [(.int .i64 0), (.int .i64 0), (.str [])]) 3 2 [(0, (.t 52)), (1, (.t 53))]),
        .op none (some 55) (.build [.nilsl, (.str []), (.bool false)] [(0, 1, (.t 54)), (1, 1, (.c (.str []))), (2, 1, (.c (.bool false)))]),
        .op none (some 56) (.build [(.int .i64 0), (.int .i64 0), (.str [])] [(0, 1, (.c (.int .i64 4)))]),
        .op none (some 57) (.buildSlice (.agg [(.int .i64 0), (.int .i64 0), (.str [])]) 3 1 [(0, (.t 56))]),
        .op none (some 58) (.build [.nilsl, (.str []), (.bool false)] [(0, 1, (.t 57)), (1, 1, (.c (.str []))), (2, 1, (.c (.bool false)))]),
        .op none (some 59) (.build [(.int .i64 0), (.int .i64 0), (.str [])] [(0, 1, (.c (.int .i64 3)))]),
        .op none (some 60) (.build [(.int .i64 0), (.int .i64 0), (.str [])] [(0, 1, (.c (.int .i64 3)))]),
        .op none (some 61) (.buildSlice (.agg [(.int .i64 0), (.int .i64 0), (.str [])]) 3 2 [(0, (.t 59)), (1, (.t 60))]),
        .op none (some 62) (.build [.nilsl, (.str []), (.bool false)] [(0, 1, (.t 61)), (1, 1, (.c (.str []))), (2, 1, (.c (.bool false)))]),
        .op none (some 63) (.build [(.int .i64 0), (.int .i64 0), (.str [])] [(0, 1, (.c (.int .i64 3))), (1, 1, (.c (.int .i64 1)))]),
        .op none (some 64) (.buildSlice (.agg [(.int .i64 0), (.int .i64 0), (.str [])]) 3 1 [(0, (.t 63))]),
        .op none (some 65) (.build [.nilsl, (.str []), (.bool false)] [(0, 1, (.t 64)), (1, 1, (.c (.str []))), (2, 1, (.c (.bool false)))]),
        .op none (some 66) (.build [(.int .i64 0), (.int .i64 0), (.str [])] [(0, 1, (.c (.int .i64 3)))]),
        .op none (some 67) (.build [(.int .i64 0), (.int .i64 0), (.str [])] [(0, 1, (.c (.int .i64 6))), (2, 1, (.c (.str [120])))]),
        .op none (some 68) (.buildSlice (.agg [(.int .i64 0), (.int .i64 0), (.str [])]) 3 2 [(0, (.t 66)), (1, (.t 67))]),
        .op none (some 69) (.build [.nilsl, (.str []), (.bool false)] [(0, 1, (.t 68)), (1, 1, (.c (.str []))), (2, 1, (.c (.bool false)))]),
        .op none (some 70) (.build [(.int .i64 0), (.int .i64 0), (.str [])] [(0, 1, (.c (.int .i64 2))), (1, 1, (.c (.int .i64 16)))]),
        .op none (some 71) (.buildSlice (.agg [(.int .i64 0), (.int .i64 0), (.str [])]) 3 1 [(0, (.t 70))]),
        .op none (some 72) (.build [.nilsl, (.str []), (.bool false)] [(0, 1, (.t 71)), (1, 1, (.c (.str []))), (2, 1, (.c (.bool false)))]),
        .op none (some 73) (.build [(.int .i64 0), (.int .i64 0), (.str [])] [(0, 1, (.c (.int .i64 1))), (2, 1, (.c (.str [97, 34, 98])))]),
        .op none (some 74) (.buildSlice (.agg [(.int .i64 0), (.int .i64 0), (.str [])]) 3 1 [(0, (.t 73))]),
        .op none (some 75) (.build [.nilsl, (.str []), (.bool false)] [(0, 1, (.t 74)), (1, 1, (.c (.str []))), (2, 1, (.c (.bool false)))]),
        .op none (some 76) (.build [(.int .i64 0), (.int .i64 0), (.str [])] [(0, 1, (.c (.int .i64 12)))]),
        .op none (some 77) (.buildSlice (.agg [(.int .i64 0), (.int .i64 0), (.str [])]) 3 1 [(0, (.t 76))]),
        .op none (some 78) (.build [.nilsl, (.str []), (.bool false)] [(0, 1, (.t 77)), (1, 1, (.c (.str []))), (2, 1, (.c (.bool false)))]),
        .op none (some 79) (.buildSlice (.agg [.nilsl, (.str []), (.bool false)]) 3 21 [(0, (.t 7)), (1, (.t 10)), (2, (.t 13)), (3, (.t 16)), (4, (.t 19)), (5, (.t 22)), (6, (.t 26)), (7, (.t 31)), (8, (.t 35)), (9, (.t 39)), (10, (.t 43)), (11, (.t 47)), (12, (.t 51)), (13, (.t 55)), (14, (.t 58)), (15, (.t 62)), (16, (.t 65)), (17, (.t 69)), (18, (.t 72)), (19, (.t 75)), (20, (.t 78))]),
        .op none (some 3) (.mv (.t 79))]) 
      (.seq 
        (.ops [.op none (some 80) (.mv (.t 3)),
          .op none (some 81) (.mv (.t 0)),
          .op none (some 82) (.bin .and .int (.t 81) (.c (.int .i64 255))),
          .op none (some 83) (.mv (.t 3)),
          .op none (some 84) (.len .slice (.t 83)),
          .op none (some 85) (.bin .rem .int (.t 82) (.t 84)),
          .op none (some 86) (.indexAddr none 3 (.t 80) (.t 85)),
          .op none (some 87) (.load true 3 (.t 86)),
          .op none (some 4) (.alloc (.agg [.nilsl, (.str []), (.bool false)]) 3),
          .op none none (.store 3 (.t 4) (.t 87)),
          .frz 4]) 
        (.seq 
          (.ops [.op none (some 89) (.fieldAddr 0 (.t 4)),
            .op none (some 90) (.load false 1 (.t 89)),
            .op none (some 91) (.buildSlice (.int .u8 0) 1 2 [(0, (.c (.int .u8 97))), (1, (.c (.int .u8 66)))]),
            .op none (some 92) (.conv .mark (.t 91)),
            .op none (some 93) (.buildSlice (.int .u8 0) 1 3 [(0, (.c (.int .u8 99))), (1, (.c (.int .u8 100))), (2, (.c (.int .u8 101)))]),
            .op none (some 94) (.conv .mark (.t 93)),
            .op none (some 95) (.buildSlice .nilsl 1 2 [(0, (.t 92)), (1, (.t 94))]),
            .op none (some 96) (.call 8 .own [(.t 90), (.t 95)]),
            .op none (some 88) (.mv (.t 96)),
            .op none (some 97) (.extract (.t 88) 0),
            .op none (some 98) (.extract (.t 88) 1),
            .op none (some 5) (.mv (.t 97)),
            .op none (some 6) (.mv (.t 98))]) 
          (.seq 
            (.ops [.op none (some 99) (.mv (.t 6)),
              .op none (some 100) (.fieldAddr 2 (.t 4)),
              .op none (some 101) (.load false 1 (.t 100)),
              .op none (some 102) (.bin .eql .bool (.t 99) (.t 101)),
              .op none (some 103) (.mv (.t 102)),
              .op (some (103, true)) (some 104) (.mv (.t 5)),
              .op (some (103, true)) (some 105) (.conv .bytesStr (.t 104)),
              .op (some (103, true)) (some 106) (.fieldAddr 1 (.t 4)),
              .op (some (103, true)) (some 107) (.load false 1 (.t 106)),
              .op (some (103, true)) (some 108) (.bin .eql .str (.t 105) (.t 107)),
              .op none (some 109) (.pick (.t 103) (.t 108) (.c (.bool false))),
              .op none (some 110) (.mv (.t 109)),
              .op (some (110, true)) (some 111) (.call 3 .pure []),
              .op none (some 112) (.pick (.t 110) (.t 111) (.c (.bool false))),
              .op none (some 2) (.mv (.t 112))]) .ret))))) }
def v_fettlelaw6_ActsForms : Env := [(8, e_acts_Run), (3, e_fettlelaw6_awake)]
def e_fettlelaw6_ActsForms : FEnt := .pure false (runPure v_fettlelaw6_ActsForms i_fettlelaw6_ActsForms)

/- fettle/fettlelaw6.ActsGrow: number 36 -/
def i_fettlelaw6_ActsGrow : IFun := { ntmps := 70, results := [.tmp 4], body := 
  (.seq 
    (.ops [.op none (some 4) (.mv (.c (.bool false)))]) 
    (.seq 
      (.ops [.op none (some 12) (.mv (.t 0)),
        .op none (some 13) (.bin .and .int (.t 12) (.c (.int .i64 63))),
        .op none (some 14) (.mv (.t 1)),
        .op none (some 15) (.bin .and .int (.t 14) (.c (.int .i64 255))),
        .op none (some 16) (.bin .rem .int (.t 15) (.c (.int .i64 8))),
        .op none (some 0) (.mv (.t 13)),
        .op none (some 1) (.mv (.t 16))]) 
      (.seq 
        (.ops [.op none (some 5) (.mv (.c (.str [])))]) 
        (.seq 
          (.seq 
            (.ops [.op none (some 6) (.mv (.c (.int .i64 0)))]) 
            (.block 0 
              (.loop 
                (.seq 
                  (.seq 
                    (.ops [.op none (some 17) (.mv (.t 6)),
                      .op none (some 18) (.mv (.t 0)),
                      .op none (some 19) (.bin .lss .int (.t 17) (.t 18))]) 
                    (.cond (.t 19) .skip (.exit 0))) 
                  (.seq 
                    (.block 1 
                      (.ops [.op none (some 22) (.mv (.t 5)),
                        .op none (some 23) (.bin .add .str (.t 22) (.c (.str [120]))),
                        .op none (some 5) (.mv (.t 23))])) 
                    (.ops [.op none (some 20) (.mv (.t 6)),
                      .op none (some 21) (.bin .add .int (.t 20) (.c (.int .i64 1))),
                      .op none (some 6) (.mv (.t 21))])))))) 
          (.seq 
            (.ops [.op none (some 24) (.mv (.t 5)),
              .op none (some 25) (.build [(.int .i64 0), (.int .i64 0), (.str [])] [(0, 1, (.c (.int .i64 1))), (2, 1, (.t 24))]),
              .op none (some 26) (.buildSlice (.agg [(.int .i64 0), (.int .i64 0), (.str [])]) 3 1 [(0, (.t 25))]),
              .op none (some 7) (.mv (.t 26))]) 
            (.seq 
              (.seq 
                (.ops [.op none (some 8) (.mv (.c (.int .i64 0)))]) 
                (.block 2 
                  (.loop 
                    (.seq 
                      (.seq 
                        (.ops [.op none (some 27) (.mv (.t 8)),
                          .op none (some 28) (.mv (.t 1)),
                          .op none (some 29) (.bin .lss .int (.t 27) (.t 28))]) 
                        (.cond (.t 29) .skip (.exit 2))) 
                      (.seq 
                        (.block 3 
                          (.ops [.op none (some 32) (.mv (.t 7)),
                            .op none (some 33) (.build [(.int .i64 0), (.int .i64 0), (.str [])] [(0, 1, (.c (.int .i64 9)))]),
                            .op none (some 34) (.buildSlice (.agg [(.int .i64 0), (.int .i64 0), (.str [])]) 3 1 [(0, (.t 33))]),
                            .op none (some 35) (.append 3 32 (.t 32) (.t 34)),
                            .op none (some 7) (.mv (.t 35))])) 
                        (.ops [.op none (some 30) (.mv (.t 8)),
                          .op none (some 31) (.bin .add .int (.t 30) (.c (.int .i64 1))),
                          .op none (some 8) (.mv (.t 31))])))))) 
              (.seq 
                (.ops [.op none (some 37) (.mv (.t 7)),
                  .op none (some 38) (.call 8 .own [(.t 37), (.c .nilsl)]),
                  .op none (some 36) (.mv (.t 38)),
                  .op none (some 39) (.extract (.t 36) 0),
                  .op none (some 40) (.extract (.t 36) 1),
                  .op none (some 9) (.mv (.t 39)),
                  .op none (some 10) (.mv (.t 40))]) 
                (.seq 
                  (.ops [.op none (some 41) (.mv (.t 0)),
                    .op none (some 42) (.mv (.t 1)),
                    .op none (some 43) (.conv (.int .u64) (.t 42)),
                    .op none (some 44) (.bin .shl .int (.t 41) (.t 43)),
                    .op none (some 11) (.mv (.t 44))]) 
                  (.seq 
                    (.ops [.op none (some 45) (.mv (.t 10)),
                      .op none (some 46) (.mv (.t 11)),
                      .op none (some 47) (.bin .leq .int (.t 46) (.c (.int .i64 256))),
                      .op none (some 48) (.bin .eql .bool (.t 45) (.t 47)),
                      .op none (some 49) (.mv (.t 48)),
                      .op (some (49, true)) (some 50) (.mv (.t 10)),
                      .op (some (49, true)) (some 51) (.un .not (.t 50)),
                      .op (some (49, true)) (some 52) (.mv (.t 51)),
                      .op (some (52, true)) (some 53) (.mv (.t 9)),
                      .op (some (52, true)) (some 54) (.len .slice (.t 53)),
                      .op (some (52, true)) (some 55) (.bin .eql .int (.t 54) (.c (.int .i64 0))),
                      .op (some (49, true)) (some 56) (.pick (.t 52) (.t 55) (.c (.bool false))),
                      .op (some (49, true)) (some 57) (.mv (.t 56)),
                      .op (some (57, false)) (some 58) (.mv (.t 10)),
                      .op (some (57, false)) (some 59) (.mv (.t 58)),
                      .op (some (59, true)) (some 60) (.mv (.t 9)),
                      .op (some (59, true)) (some 61) (.len .slice (.t 60)),
                      .op (some (59, true)) (some 62) (.mv (.t 11)),
                      .op (some (59, true)) (some 63) (.bin .eql .int (.t 61) (.t 62)),
                      .op (some (57, false)) (some 64) (.pick (.t 59) (.t 63) (.c (.bool false))),
                      .op (some (49, true)) (some 65) (.pick (.t 57) (.c (.bool true)) (.t 64)),
                      .op none (some 66) (.pick (.t 49) (.t 65) (.c (.bool false))),
                      .op none (some 67) (.mv (.t 66)),
                      .op (some (67, true)) (some 68) (.call 3 .pure []),
                      .op none (some 69) (.pick (.t 67) (.t 68) (.c (.bool false))),
                      .op none (some 4) (.mv (.t 69))]) .ret))))))))) }
def v_fettlelaw6_ActsGrow : Env := [(8, e_acts_Run), (3, e_fettlelaw6_awake)]
def e_fettlelaw6_ActsGrow : FEnt := .pure false (runPure v_fettlelaw6_ActsGrow i_fettlelaw6_ActsGrow)

end Go.Abx
