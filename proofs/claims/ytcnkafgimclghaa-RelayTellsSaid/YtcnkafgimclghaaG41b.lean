import Derived.Test.YtcnkafgimclghaaG41a
namespace Go.Proofs
open Gp
set_option maxRecDepth 100000
set_option maxHeartbeats 4000000
/-- goosepond/wrap.Wrap -/
abbrev n_wrap_Wrap : FuncId := 12
def c_wrap_Wrap (a0_0 : Int) (a0_1 : Int) (a0_2 : Int) (a0_3 : Int) (a0_4 : Int) (a0_5 : Int) (a0_6 : Int) (a0_7 : Int) (a0_8 : Int) (a0_9 : Int) (a0_10 : Int) (a0_11 : Int) (a0_12 : Int) (a0_13 : Int) (a0_14 : Int) (a0_15 : Int) (a1_0 : Int) (a1_1 : Int) (a1_2 : Int) (a1_3 : Int) (a1_4 : Int) (a1_5 : Int) (a1_6 : Int) (a1_7 : Int) (a1_8 : Int) (a1_9 : Int) (a1_10 : Int) (a1_11 : Int) (a1_12 : Int) (a1_13 : Int) (a1_14 : Int) (a1_15 : Int) (a2 : Int) (a3 : SliceV) (w : World) (K : Int → Int → Int → Int → Int → Int → Int → Int → Int → Int → Int → Int → Int → Int → Int → Int → Int → Int → Int → Int → Int → Int → Int → Int → Int → Int → Int → Int → Int → Int → Int → Int → Int → Int → Int → Int → SliceV → Int → World → Prop) : Prop :=
  Calls Try.prog 12 ⟨[(Value.agg ⟨[(Value.int .u8 a0_0), (Value.int .u8 a0_1), (Value.int .u8 a0_2), (Value.int .u8 a0_3), (Value.int .u8 a0_4), (Value.int .u8 a0_5), (Value.int .u8 a0_6), (Value.int .u8 a0_7), (Value.int .u8 a0_8), (Value.int .u8 a0_9), (Value.int .u8 a0_10), (Value.int .u8 a0_11), (Value.int .u8 a0_12), (Value.int .u8 a0_13), (Value.int .u8 a0_14), (Value.int .u8 a0_15)]⟩), (Value.agg ⟨[(Value.int .u8 a1_0), (Value.int .u8 a1_1), (Value.int .u8 a1_2), (Value.int .u8 a1_3), (Value.int .u8 a1_4), (Value.int .u8 a1_5), (Value.int .u8 a1_6), (Value.int .u8 a1_7), (Value.int .u8 a1_8), (Value.int .u8 a1_9), (Value.int .u8 a1_10), (Value.int .u8 a1_11), (Value.int .u8 a1_12), (Value.int .u8 a1_13), (Value.int .u8 a1_14), (Value.int .u8 a1_15)]⟩), (Value.int .i64 a2), (Value.slice a3.a a3.len a3.cap)]⟩ w fun e w' => ∃ y201 : Int, ∃ y202 : Int, ∃ y203 : Int, ∃ y204 : Int, ∃ y205 : Int, ∃ y206 : Int, ∃ y207 : Int, ∃ y208 : Int, ∃ y209 : Int, ∃ y210 : Int, ∃ y211 : Int, ∃ y212 : Int, ∃ y213 : Int, ∃ y214 : Int, ∃ y215 : Int, ∃ y216 : Int, ∃ y217 : Int, ∃ y218 : Int, ∃ y219 : Int, ∃ y220 : Int, ∃ y221 : Int, ∃ y222 : Int, ∃ y223 : Int, ∃ y224 : Int, ∃ y225 : Int, ∃ y226 : Int, ∃ y227 : Int, ∃ y228 : Int, ∃ y229 : Int, ∃ y230 : Int, ∃ y231 : Int, ∃ y232 : Int, ∃ y233 : Int, ∃ y234 : Int, ∃ y235 : Int, ∃ y236 : Int, ∃ y237 : SliceV, ∃ y238 : Int, e = .returned (Value.tuple ⟨[(Value.agg ⟨((Value.int .i64 y201) :: (Value.int .i64 y202) :: (Value.int .i64 y203) :: (Value.int .i64 y204) :: (Value.int .u8 y205) :: (Value.int .u8 y206) :: (Value.int .u8 y207) :: (Value.int .u8 y208) :: (Value.int .u8 y209) :: (Value.int .u8 y210) :: (Value.int .u8 y211) :: (Value.int .u8 y212) :: (Value.int .u8 y213) :: (Value.int .u8 y214) :: (Value.int .u8 y215) :: (Value.int .u8 y216) :: (Value.int .u8 y217) :: (Value.int .u8 y218) :: (Value.int .u8 y219) :: (Value.int .u8 y220) :: (Value.int .u8 y221) :: (Value.int .u8 y222) :: (Value.int .u8 y223) :: (Value.int .u8 y224) :: (Value.int .u8 y225) :: (Value.int .u8 y226) :: (Value.int .u8 y227) :: (Value.int .u8 y228) :: (Value.int .u8 y229) :: (Value.int .u8 y230) :: (Value.int .u8 y231) :: (Value.int .u8 y232) :: (Value.int .u8 y233) :: (Value.int .u8 y234) :: (Value.int .u8 y235) :: (Value.int .u8 y236) :: (Value.slice y237.a y237.len y237.cap) :: [])⟩), (Value.int .i64 y238)]⟩) ∧ K y201 y202 y203 y204 y205 y206 y207 y208 y209 y210 y211 y212 y213 y214 y215 y216 y217 y218 y219 y220 y221 y222 y223 y224 y225 y226 y227 y228 y229 y230 y231 y232 y233 y234 y235 y236 y237 y238 w'
theorem cm_wrap_Wrap {a0_0 a0_1 a0_2 a0_3 a0_4 a0_5 a0_6 a0_7 a0_8 a0_9 a0_10 a0_11 a0_12 a0_13 a0_14 a0_15 a1_0 a1_1 a1_2 a1_3 a1_4 a1_5 a1_6 a1_7 a1_8 a1_9 a1_10 a1_11 a1_12 a1_13 a1_14 a1_15 a2 a3 w K K'} (h : c_wrap_Wrap a0_0 a0_1 a0_2 a0_3 a0_4 a0_5 a0_6 a0_7 a0_8 a0_9 a0_10 a0_11 a0_12 a0_13 a0_14 a0_15 a1_0 a1_1 a1_2 a1_3 a1_4 a1_5 a1_6 a1_7 a1_8 a1_9 a1_10 a1_11 a1_12 a1_13 a1_14 a1_15 a2 a3 w K) (hk : ∀ x0 x1 x2 x3 x4 x5 x6 x7 x8 x9 x10 x11 x12 x13 x14 x15 x16 x17 x18 x19 x20 x21 x22 x23 x24 x25 x26 x27 x28 x29 x30 x31 x32 x33 x34 x35 x36 x37 w', K x0 x1 x2 x3 x4 x5 x6 x7 x8 x9 x10 x11 x12 x13 x14 x15 x16 x17 x18 x19 x20 x21 x22 x23 x24 x25 x26 x27 x28 x29 x30 x31 x32 x33 x34 x35 x36 x37 w' → K' x0 x1 x2 x3 x4 x5 x6 x7 x8 x9 x10 x11 x12 x13 x14 x15 x16 x17 x18 x19 x20 x21 x22 x23 x24 x25 x26 x27 x28 x29 x30 x31 x32 x33 x34 x35 x36 x37 w') : c_wrap_Wrap a0_0 a0_1 a0_2 a0_3 a0_4 a0_5 a0_6 a0_7 a0_8 a0_9 a0_10 a0_11 a0_12 a0_13 a0_14 a0_15 a1_0 a1_1 a1_2 a1_3 a1_4 a1_5 a1_6 a1_7 a1_8 a1_9 a1_10 a1_11 a1_12 a1_13 a1_14 a1_15 a2 a3 w K' :=
  Calls.mono h fun e w' hh => by obtain ⟨x0, x1, x2, x3, x4, x5, x6, x7, x8, x9, x10, x11, x12, x13, x14, x15, x16, x17, x18, x19, x20, x21, x22, x23, x24, x25, x26, x27, x28, x29, x30, x31, x32, x33, x34, x35, x36, x37, he, hx⟩ := hh; exact ⟨x0, x1, x2, x3, x4, x5, x6, x7, x8, x9, x10, x11, x12, x13, x14, x15, x16, x17, x18, x19, x20, x21, x22, x23, x24, x25, x26, x27, x28, x29, x30, x31, x32, x33, x34, x35, x36, x37, he, hk _ _ _ _ _ _ _ _ _ _ _ _ _ _ _ _ _ _ _ _ _ _ _ _ _ _ _ _ _ _ _ _ _ _ _ _ _ _ _ hx⟩

/-- goosepond/v6.Build -/
abbrev n_v6_Build : FuncId := 13
def c_v6_Build (a0_0 : Int) (a0_1 : Int) (a0_2 : Int) (a0_3 : Int) (a0_4 : Int) (a0_5 : Int) (a0_6 : Int) (a0_7 : Int) (a0_8 : Int) (a0_9 : Int) (a0_10 : Int) (a0_11 : Int) (a0_12 : Int) (a0_13 : Int) (a0_14 : Int) (a0_15 : Int) (a0_16 : Int) (a0_17 : Int) (a0_18 : Int) (a0_19 : Int) (a0_20 : Int) (a0_21 : Int) (a0_22 : Int) (a0_23 : Int) (a0_24 : Int) (a0_25 : Int) (a0_26 : Int) (a0_27 : Int) (a0_28 : Int) (a0_29 : Int) (a0_30 : Int) (a0_31 : Int) (a0_32 : Int) (a0_33 : Int) (a0_34 : Int) (a0_35 : Int) (a0_36 : SliceV) (w : World) (K : SliceV → Int → World → Prop) : Prop :=
  Calls Try.prog 13 ⟨[(Value.agg ⟨((Value.int .i64 a0_0) :: (Value.int .i64 a0_1) :: (Value.int .i64 a0_2) :: (Value.int .i64 a0_3) :: (Value.int .u8 a0_4) :: (Value.int .u8 a0_5) :: (Value.int .u8 a0_6) :: (Value.int .u8 a0_7) :: (Value.int .u8 a0_8) :: (Value.int .u8 a0_9) :: (Value.int .u8 a0_10) :: (Value.int .u8 a0_11) :: (Value.int .u8 a0_12) :: (Value.int .u8 a0_13) :: (Value.int .u8 a0_14) :: (Value.int .u8 a0_15) :: (Value.int .u8 a0_16) :: (Value.int .u8 a0_17) :: (Value.int .u8 a0_18) :: (Value.int .u8 a0_19) :: (Value.int .u8 a0_20) :: (Value.int .u8 a0_21) :: (Value.int .u8 a0_22) :: (Value.int .u8 a0_23) :: (Value.int .u8 a0_24) :: (Value.int .u8 a0_25) :: (Value.int .u8 a0_26) :: (Value.int .u8 a0_27) :: (Value.int .u8 a0_28) :: (Value.int .u8 a0_29) :: (Value.int .u8 a0_30) :: (Value.int .u8 a0_31) :: (Value.int .u8 a0_32) :: (Value.int .u8 a0_33) :: (Value.int .u8 a0_34) :: (Value.int .u8 a0_35) :: (Value.slice a0_36.a a0_36.len a0_36.cap) :: [])⟩)]⟩ w fun e w' => ∃ y63 : SliceV, ∃ y64 : Int, e = .returned (Value.tuple ⟨[(Value.slice y63.a y63.len y63.cap), (Value.int .i64 y64)]⟩) ∧ K y63 y64 w'
theorem cm_v6_Build {a0_0 a0_1 a0_2 a0_3 a0_4 a0_5 a0_6 a0_7 a0_8 a0_9 a0_10 a0_11 a0_12 a0_13 a0_14 a0_15 a0_16 a0_17 a0_18 a0_19 a0_20 a0_21 a0_22 a0_23 a0_24 a0_25 a0_26 a0_27 a0_28 a0_29 a0_30 a0_31 a0_32 a0_33 a0_34 a0_35 a0_36 w K K'} (h : c_v6_Build a0_0 a0_1 a0_2 a0_3 a0_4 a0_5 a0_6 a0_7 a0_8 a0_9 a0_10 a0_11 a0_12 a0_13 a0_14 a0_15 a0_16 a0_17 a0_18 a0_19 a0_20 a0_21 a0_22 a0_23 a0_24 a0_25 a0_26 a0_27 a0_28 a0_29 a0_30 a0_31 a0_32 a0_33 a0_34 a0_35 a0_36 w K) (hk : ∀ x0 x1 w', K x0 x1 w' → K' x0 x1 w') : c_v6_Build a0_0 a0_1 a0_2 a0_3 a0_4 a0_5 a0_6 a0_7 a0_8 a0_9 a0_10 a0_11 a0_12 a0_13 a0_14 a0_15 a0_16 a0_17 a0_18 a0_19 a0_20 a0_21 a0_22 a0_23 a0_24 a0_25 a0_26 a0_27 a0_28 a0_29 a0_30 a0_31 a0_32 a0_33 a0_34 a0_35 a0_36 w K' :=
  Calls.mono h fun e w' hh => by obtain ⟨x0, x1, he, hx⟩ := hh; exact ⟨x0, x1, he, hk _ _ _ hx⟩

/-- goosepond/v6.Check -/
abbrev n_v6_Check : FuncId := 33
def c_v6_Check (a0_0 : Int) (a0_1 : Int) (a0_2 : Int) (a0_3 : Int) (a0_4 : Int) (a0_5 : Int) (a0_6 : Int) (a0_7 : Int) (a0_8 : Int) (a0_9 : Int) (a0_10 : Int) (a0_11 : Int) (a0_12 : Int) (a0_13 : Int) (a0_14 : Int) (a0_15 : Int) (a0_16 : Int) (a0_17 : Int) (a0_18 : Int) (a0_19 : Int) (a0_20 : Int) (a0_21 : Int) (a0_22 : Int) (a0_23 : Int) (a0_24 : Int) (a0_25 : Int) (a0_26 : Int) (a0_27 : Int) (a0_28 : Int) (a0_29 : Int) (a0_30 : Int) (a0_31 : Int) (a0_32 : Int) (a0_33 : Int) (a0_34 : Int) (a0_35 : Int) (a0_36 : SliceV) (w : World) (K : Int → World → Prop) : Prop :=
  Calls Try.prog 33 ⟨[(Value.agg ⟨((Value.int .i64 a0_0) :: (Value.int .i64 a0_1) :: (Value.int .i64 a0_2) :: (Value.int .i64 a0_3) :: (Value.int .u8 a0_4) :: (Value.int .u8 a0_5) :: (Value.int .u8 a0_6) :: (Value.int .u8 a0_7) :: (Value.int .u8 a0_8) :: (Value.int .u8 a0_9) :: (Value.int .u8 a0_10) :: (Value.int .u8 a0_11) :: (Value.int .u8 a0_12) :: (Value.int .u8 a0_13) :: (Value.int .u8 a0_14) :: (Value.int .u8 a0_15) :: (Value.int .u8 a0_16) :: (Value.int .u8 a0_17) :: (Value.int .u8 a0_18) :: (Value.int .u8 a0_19) :: (Value.int .u8 a0_20) :: (Value.int .u8 a0_21) :: (Value.int .u8 a0_22) :: (Value.int .u8 a0_23) :: (Value.int .u8 a0_24) :: (Value.int .u8 a0_25) :: (Value.int .u8 a0_26) :: (Value.int .u8 a0_27) :: (Value.int .u8 a0_28) :: (Value.int .u8 a0_29) :: (Value.int .u8 a0_30) :: (Value.int .u8 a0_31) :: (Value.int .u8 a0_32) :: (Value.int .u8 a0_33) :: (Value.int .u8 a0_34) :: (Value.int .u8 a0_35) :: (Value.slice a0_36.a a0_36.len a0_36.cap) :: [])⟩)]⟩ w fun e w' => ∃ y21 : Int, e = .returned (Value.int .i64 y21) ∧ K y21 w'
theorem cm_v6_Check {a0_0 a0_1 a0_2 a0_3 a0_4 a0_5 a0_6 a0_7 a0_8 a0_9 a0_10 a0_11 a0_12 a0_13 a0_14 a0_15 a0_16 a0_17 a0_18 a0_19 a0_20 a0_21 a0_22 a0_23 a0_24 a0_25 a0_26 a0_27 a0_28 a0_29 a0_30 a0_31 a0_32 a0_33 a0_34 a0_35 a0_36 w K K'} (h : c_v6_Check a0_0 a0_1 a0_2 a0_3 a0_4 a0_5 a0_6 a0_7 a0_8 a0_9 a0_10 a0_11 a0_12 a0_13 a0_14 a0_15 a0_16 a0_17 a0_18 a0_19 a0_20 a0_21 a0_22 a0_23 a0_24 a0_25 a0_26 a0_27 a0_28 a0_29 a0_30 a0_31 a0_32 a0_33 a0_34 a0_35 a0_36 w K) (hk : ∀ x0 w', K x0 w' → K' x0 w') : c_v6_Check a0_0 a0_1 a0_2 a0_3 a0_4 a0_5 a0_6 a0_7 a0_8 a0_9 a0_10 a0_11 a0_12 a0_13 a0_14 a0_15 a0_16 a0_17 a0_18 a0_19 a0_20 a0_21 a0_22 a0_23 a0_24 a0_25 a0_26 a0_27 a0_28 a0_29 a0_30 a0_31 a0_32 a0_33 a0_34 a0_35 a0_36 w K' :=
  Calls.mono h fun e w' hh => by obtain ⟨x0, he, hx⟩ := hh; exact ⟨x0, he, hk _ _ hx⟩

/-- slices.Concat[[]byte,byte] -/
abbrev n_slices_Concat_byte_byte : FuncId := 35
def c_slices_Concat_byte_byte (a0 : SliceV) (w : World) (K : SliceV → World → Prop) : Prop :=
  Calls Try.prog 35 ⟨[(Value.slice a0.a a0.len a0.cap)]⟩ w fun e w' => ∃ y16 : SliceV, e = .returned (Value.slice y16.a y16.len y16.cap) ∧ K y16 w'
theorem cm_slices_Concat_byte_byte {a0 w K K'} (h : c_slices_Concat_byte_byte a0 w K) (hk : ∀ x0 w', K x0 w' → K' x0 w') : c_slices_Concat_byte_byte a0 w K' :=
  Calls.mono h fun e w' hh => by obtain ⟨x0, he, hx⟩ := hh; exact ⟨x0, he, hk _ _ hx⟩

/-- goosepond/goosepondref06.Quoted -/
abbrev n_ref06_Quoted : FuncId := 42
def c_ref06_Quoted (a0 : SliceV) (w : World) (K : Int → Int → Int → Int → Int → Int → Int → Int → Int → Int → Int → Int → Int → Int → Int → Int → Int → Int → Int → Int → Int → Int → Int → Int → Int → Int → Int → Int → Int → Int → Int → Int → Int → Int → Int → Int → SliceV → Int → World → Prop) : Prop :=
  Calls Try.prog 42 ⟨[(Value.slice a0.a a0.len a0.cap)]⟩ w fun e w' => ∃ y81 : Int, ∃ y82 : Int, ∃ y83 : Int, ∃ y84 : Int, ∃ y85 : Int, ∃ y86 : Int, ∃ y87 : Int, ∃ y88 : Int, ∃ y89 : Int, ∃ y90 : Int, ∃ y91 : Int, ∃ y92 : Int, ∃ y93 : Int, ∃ y94 : Int, ∃ y95 : Int, ∃ y96 : Int, ∃ y97 : Int, ∃ y98 : Int, ∃ y99 : Int, ∃ y100 : Int, ∃ y101 : Int, ∃ y102 : Int, ∃ y103 : Int, ∃ y104 : Int, ∃ y105 : Int, ∃ y106 : Int, ∃ y107 : Int, ∃ y108 : Int, ∃ y109 : Int, ∃ y110 : Int, ∃ y111 : Int, ∃ y112 : Int, ∃ y113 : Int, ∃ y114 : Int, ∃ y115 : Int, ∃ y116 : Int, ∃ y117 : SliceV, ∃ y118 : Int, e = .returned (Value.tuple ⟨[(Value.agg ⟨((Value.int .i64 y81) :: (Value.int .i64 y82) :: (Value.int .i64 y83) :: (Value.int .i64 y84) :: (Value.int .u8 y85) :: (Value.int .u8 y86) :: (Value.int .u8 y87) :: (Value.int .u8 y88) :: (Value.int .u8 y89) :: (Value.int .u8 y90) :: (Value.int .u8 y91) :: (Value.int .u8 y92) :: (Value.int .u8 y93) :: (Value.int .u8 y94) :: (Value.int .u8 y95) :: (Value.int .u8 y96) :: (Value.int .u8 y97) :: (Value.int .u8 y98) :: (Value.int .u8 y99) :: (Value.int .u8 y100) :: (Value.int .u8 y101) :: (Value.int .u8 y102) :: (Value.int .u8 y103) :: (Value.int .u8 y104) :: (Value.int .u8 y105) :: (Value.int .u8 y106) :: (Value.int .u8 y107) :: (Value.int .u8 y108) :: (Value.int .u8 y109) :: (Value.int .u8 y110) :: (Value.int .u8 y111) :: (Value.int .u8 y112) :: (Value.int .u8 y113) :: (Value.int .u8 y114) :: (Value.int .u8 y115) :: (Value.int .u8 y116) :: (Value.slice y117.a y117.len y117.cap) :: [])⟩), (Value.int .i64 y118)]⟩) ∧ K y81 y82 y83 y84 y85 y86 y87 y88 y89 y90 y91 y92 y93 y94 y95 y96 y97 y98 y99 y100 y101 y102 y103 y104 y105 y106 y107 y108 y109 y110 y111 y112 y113 y114 y115 y116 y117 y118 w'
theorem cm_ref06_Quoted {a0 w K K'} (h : c_ref06_Quoted a0 w K) (hk : ∀ x0 x1 x2 x3 x4 x5 x6 x7 x8 x9 x10 x11 x12 x13 x14 x15 x16 x17 x18 x19 x20 x21 x22 x23 x24 x25 x26 x27 x28 x29 x30 x31 x32 x33 x34 x35 x36 x37 w', K x0 x1 x2 x3 x4 x5 x6 x7 x8 x9 x10 x11 x12 x13 x14 x15 x16 x17 x18 x19 x20 x21 x22 x23 x24 x25 x26 x27 x28 x29 x30 x31 x32 x33 x34 x35 x36 x37 w' → K' x0 x1 x2 x3 x4 x5 x6 x7 x8 x9 x10 x11 x12 x13 x14 x15 x16 x17 x18 x19 x20 x21 x22 x23 x24 x25 x26 x27 x28 x29 x30 x31 x32 x33 x34 x35 x36 x37 w') : c_ref06_Quoted a0 w K' :=
  Calls.mono h fun e w' hh => by obtain ⟨x0, x1, x2, x3, x4, x5, x6, x7, x8, x9, x10, x11, x12, x13, x14, x15, x16, x17, x18, x19, x20, x21, x22, x23, x24, x25, x26, x27, x28, x29, x30, x31, x32, x33, x34, x35, x36, x37, he, hx⟩ := hh; exact ⟨x0, x1, x2, x3, x4, x5, x6, x7, x8, x9, x10, x11, x12, x13, x14, x15, x16, x17, x18, x19, x20, x21, x22, x23, x24, x25, x26, x27, x28, x29, x30, x31, x32, x33, x34, x35, x36, x37, he, hk _ _ _ _ _ _ _ _ _ _ _ _ _ _ _ _ _ _ _ _ _ _ _ _ _ _ _ _ _ _ _ _ _ _ _ _ _ _ _ hx⟩

/-- goosepond/goosepondref30.inner -/
abbrev n_ref30_inner : FuncId := 43
def c_ref30_inner (a0_0 : Int) (a0_1 : Int) (a0_2 : Int) (a0_3 : Int) (a0_4 : Int) (a0_5 : Int) (a0_6 : Int) (a0_7 : Int) (a0_8 : Int) (a0_9 : Int) (a0_10 : Int) (a0_11 : Int) (a0_12 : Int) (a0_13 : Int) (a0_14 : Int) (a0_15 : Int) (a0_16 : Int) (a0_17 : Int) (a0_18 : Int) (a0_19 : Int) (a0_20 : Int) (a0_21 : Int) (a0_22 : Int) (a0_23 : Int) (a0_24 : Int) (a0_25 : Int) (a0_26 : Int) (a0_27 : Int) (a0_28 : Int) (a0_29 : Int) (a0_30 : Int) (a0_31 : Int) (a0_32 : Int) (a0_33 : Int) (a0_34 : Int) (a0_35 : Int) (a0_36 : SliceV) (w : World) (K : SliceV → Int → World → Prop) : Prop :=
  Calls Try.prog 43 ⟨[(Value.agg ⟨((Value.int .i64 a0_0) :: (Value.int .i64 a0_1) :: (Value.int .i64 a0_2) :: (Value.int .i64 a0_3) :: (Value.int .u8 a0_4) :: (Value.int .u8 a0_5) :: (Value.int .u8 a0_6) :: (Value.int .u8 a0_7) :: (Value.int .u8 a0_8) :: (Value.int .u8 a0_9) :: (Value.int .u8 a0_10) :: (Value.int .u8 a0_11) :: (Value.int .u8 a0_12) :: (Value.int .u8 a0_13) :: (Value.int .u8 a0_14) :: (Value.int .u8 a0_15) :: (Value.int .u8 a0_16) :: (Value.int .u8 a0_17) :: (Value.int .u8 a0_18) :: (Value.int .u8 a0_19) :: (Value.int .u8 a0_20) :: (Value.int .u8 a0_21) :: (Value.int .u8 a0_22) :: (Value.int .u8 a0_23) :: (Value.int .u8 a0_24) :: (Value.int .u8 a0_25) :: (Value.int .u8 a0_26) :: (Value.int .u8 a0_27) :: (Value.int .u8 a0_28) :: (Value.int .u8 a0_29) :: (Value.int .u8 a0_30) :: (Value.int .u8 a0_31) :: (Value.int .u8 a0_32) :: (Value.int .u8 a0_33) :: (Value.int .u8 a0_34) :: (Value.int .u8 a0_35) :: (Value.slice a0_36.a a0_36.len a0_36.cap) :: [])⟩)]⟩ w fun e w' => ∃ y22 : SliceV, ∃ y23 : Int, e = .returned (Value.tuple ⟨[(Value.slice y22.a y22.len y22.cap), (Value.int .i64 y23)]⟩) ∧ K y22 y23 w'
theorem cm_ref30_inner {a0_0 a0_1 a0_2 a0_3 a0_4 a0_5 a0_6 a0_7 a0_8 a0_9 a0_10 a0_11 a0_12 a0_13 a0_14 a0_15 a0_16 a0_17 a0_18 a0_19 a0_20 a0_21 a0_22 a0_23 a0_24 a0_25 a0_26 a0_27 a0_28 a0_29 a0_30 a0_31 a0_32 a0_33 a0_34 a0_35 a0_36 w K K'} (h : c_ref30_inner a0_0 a0_1 a0_2 a0_3 a0_4 a0_5 a0_6 a0_7 a0_8 a0_9 a0_10 a0_11 a0_12 a0_13 a0_14 a0_15 a0_16 a0_17 a0_18 a0_19 a0_20 a0_21 a0_22 a0_23 a0_24 a0_25 a0_26 a0_27 a0_28 a0_29 a0_30 a0_31 a0_32 a0_33 a0_34 a0_35 a0_36 w K) (hk : ∀ x0 x1 w', K x0 x1 w' → K' x0 x1 w') : c_ref30_inner a0_0 a0_1 a0_2 a0_3 a0_4 a0_5 a0_6 a0_7 a0_8 a0_9 a0_10 a0_11 a0_12 a0_13 a0_14 a0_15 a0_16 a0_17 a0_18 a0_19 a0_20 a0_21 a0_22 a0_23 a0_24 a0_25 a0_26 a0_27 a0_28 a0_29 a0_30 a0_31 a0_32 a0_33 a0_34 a0_35 a0_36 w K' :=
  Calls.mono h fun e w' hh => by obtain ⟨x0, x1, he, hx⟩ := hh; exact ⟨x0, x1, he, hk _ _ _ hx⟩

/-- slices.Grow[[]byte,byte] -/
abbrev n_slices_Grow_byte_byte : FuncId := 58
def c_slices_Grow_byte_byte (a0 : SliceV) (a1 : Int) (w : World) (K : SliceV → World → Prop) : Prop :=
  Calls Try.prog 58 ⟨[(Value.slice a0.a a0.len a0.cap), (Value.int .i64 a1)]⟩ w fun e w' => ∃ y10 : SliceV, e = .returned (Value.slice y10.a y10.len y10.cap) ∧ K y10 w'
theorem cm_slices_Grow_byte_byte {a0 a1 w K K'} (h : c_slices_Grow_byte_byte a0 a1 w K) (hk : ∀ x0 w', K x0 w' → K' x0 w') : c_slices_Grow_byte_byte a0 a1 w K' :=
  Calls.mono h fun e w' hh => by obtain ⟨x0, he, hx⟩ := hh; exact ⟨x0, he, hk _ _ hx⟩

/-- goosepond/v6.Quoted -/
abbrev n_v6_Quoted : FuncId := 59
def c_v6_Quoted (a0 : SliceV) (w : World) (K : Int → Int → Int → Int → Int → Int → Int → Int → Int → Int → Int → Int → Int → Int → Int → Int → Int → Int → Int → Int → Int → Int → Int → Int → Int → Int → Int → Int → Int → Int → Int → Int → Int → Int → Int → Int → SliceV → Int → World → Prop) : Prop :=
  Calls Try.prog 59 ⟨[(Value.slice a0.a a0.len a0.cap)]⟩ w fun e w' => ∃ y81 : Int, ∃ y82 : Int, ∃ y83 : Int, ∃ y84 : Int, ∃ y85 : Int, ∃ y86 : Int, ∃ y87 : Int, ∃ y88 : Int, ∃ y89 : Int, ∃ y90 : Int, ∃ y91 : Int, ∃ y92 : Int, ∃ y93 : Int, ∃ y94 : Int, ∃ y95 : Int, ∃ y96 : Int, ∃ y97 : Int, ∃ y98 : Int, ∃ y99 : Int, ∃ y100 : Int, ∃ y101 : Int, ∃ y102 : Int, ∃ y103 : Int, ∃ y104 : Int, ∃ y105 : Int, ∃ y106 : Int, ∃ y107 : Int, ∃ y108 : Int, ∃ y109 : Int, ∃ y110 : Int, ∃ y111 : Int, ∃ y112 : Int, ∃ y113 : Int, ∃ y114 : Int, ∃ y115 : Int, ∃ y116 : Int, ∃ y117 : SliceV, ∃ y118 : Int, e = .returned (Value.tuple ⟨[(Value.agg ⟨((Value.int .i64 y81) :: (Value.int .i64 y82) :: (Value.int .i64 y83) :: (Value.int .i64 y84) :: (Value.int .u8 y85) :: (Value.int .u8 y86) :: (Value.int .u8 y87) :: (Value.int .u8 y88) :: (Value.int .u8 y89) :: (Value.int .u8 y90) :: (Value.int .u8 y91) :: (Value.int .u8 y92) :: (Value.int .u8 y93) :: (Value.int .u8 y94) :: (Value.int .u8 y95) :: (Value.int .u8 y96) :: (Value.int .u8 y97) :: (Value.int .u8 y98) :: (Value.int .u8 y99) :: (Value.int .u8 y100) :: (Value.int .u8 y101) :: (Value.int .u8 y102) :: (Value.int .u8 y103) :: (Value.int .u8 y104) :: (Value.int .u8 y105) :: (Value.int .u8 y106) :: (Value.int .u8 y107) :: (Value.int .u8 y108) :: (Value.int .u8 y109) :: (Value.int .u8 y110) :: (Value.int .u8 y111) :: (Value.int .u8 y112) :: (Value.int .u8 y113) :: (Value.int .u8 y114) :: (Value.int .u8 y115) :: (Value.int .u8 y116) :: (Value.slice y117.a y117.len y117.cap) :: [])⟩), (Value.int .i64 y118)]⟩) ∧ K y81 y82 y83 y84 y85 y86 y87 y88 y89 y90 y91 y92 y93 y94 y95 y96 y97 y98 y99 y100 y101 y102 y103 y104 y105 y106 y107 y108 y109 y110 y111 y112 y113 y114 y115 y116 y117 y118 w'
theorem cm_v6_Quoted {a0 w K K'} (h : c_v6_Quoted a0 w K) (hk : ∀ x0 x1 x2 x3 x4 x5 x6 x7 x8 x9 x10 x11 x12 x13 x14 x15 x16 x17 x18 x19 x20 x21 x22 x23 x24 x25 x26 x27 x28 x29 x30 x31 x32 x33 x34 x35 x36 x37 w', K x0 x1 x2 x3 x4 x5 x6 x7 x8 x9 x10 x11 x12 x13 x14 x15 x16 x17 x18 x19 x20 x21 x22 x23 x24 x25 x26 x27 x28 x29 x30 x31 x32 x33 x34 x35 x36 x37 w' → K' x0 x1 x2 x3 x4 x5 x6 x7 x8 x9 x10 x11 x12 x13 x14 x15 x16 x17 x18 x19 x20 x21 x22 x23 x24 x25 x26 x27 x28 x29 x30 x31 x32 x33 x34 x35 x36 x37 w') : c_v6_Quoted a0 w K' :=
  Calls.mono h fun e w' hh => by obtain ⟨x0, x1, x2, x3, x4, x5, x6, x7, x8, x9, x10, x11, x12, x13, x14, x15, x16, x17, x18, x19, x20, x21, x22, x23, x24, x25, x26, x27, x28, x29, x30, x31, x32, x33, x34, x35, x36, x37, he, hx⟩ := hh; exact ⟨x0, x1, x2, x3, x4, x5, x6, x7, x8, x9, x10, x11, x12, x13, x14, x15, x16, x17, x18, x19, x20, x21, x22, x23, x24, x25, x26, x27, x28, x29, x30, x31, x32, x33, x34, x35, x36, x37, he, hk _ _ _ _ _ _ _ _ _ _ _ _ _ _ _ _ _ _ _ _ _ _ _ _ _ _ _ _ _ _ _ _ _ _ _ _ _ _ _ hx⟩

/-- goosepond/relay.inner -/
abbrev n_relay_inner : FuncId := 60
def c_relay_inner (a0_0 : Int) (a0_1 : Int) (a0_2 : Int) (a0_3 : Int) (a0_4 : Int) (a0_5 : Int) (a0_6 : Int) (a0_7 : Int) (a0_8 : Int) (a0_9 : Int) (a0_10 : Int) (a0_11 : Int) (a0_12 : Int) (a0_13 : Int) (a0_14 : Int) (a0_15 : Int) (a0_16 : Int) (a0_17 : Int) (a0_18 : Int) (a0_19 : Int) (a0_20 : Int) (a0_21 : Int) (a0_22 : Int) (a0_23 : Int) (a0_24 : Int) (a0_25 : Int) (a0_26 : Int) (a0_27 : Int) (a0_28 : Int) (a0_29 : Int) (a0_30 : Int) (a0_31 : Int) (a0_32 : Int) (a0_33 : Int) (a0_34 : Int) (a0_35 : Int) (a0_36 : SliceV) (w : World) (K : SliceV → Int → World → Prop) : Prop :=
  Calls Try.prog 60 ⟨[(Value.agg ⟨((Value.int .i64 a0_0) :: (Value.int .i64 a0_1) :: (Value.int .i64 a0_2) :: (Value.int .i64 a0_3) :: (Value.int .u8 a0_4) :: (Value.int .u8 a0_5) :: (Value.int .u8 a0_6) :: (Value.int .u8 a0_7) :: (Value.int .u8 a0_8) :: (Value.int .u8 a0_9) :: (Value.int .u8 a0_10) :: (Value.int .u8 a0_11) :: (Value.int .u8 a0_12) :: (Value.int .u8 a0_13) :: (Value.int .u8 a0_14) :: (Value.int .u8 a0_15) :: (Value.int .u8 a0_16) :: (Value.int .u8 a0_17) :: (Value.int .u8 a0_18) :: (Value.int .u8 a0_19) :: (Value.int .u8 a0_20) :: (Value.int .u8 a0_21) :: (Value.int .u8 a0_22) :: (Value.int .u8 a0_23) :: (Value.int .u8 a0_24) :: (Value.int .u8 a0_25) :: (Value.int .u8 a0_26) :: (Value.int .u8 a0_27) :: (Value.int .u8 a0_28) :: (Value.int .u8 a0_29) :: (Value.int .u8 a0_30) :: (Value.int .u8 a0_31) :: (Value.int .u8 a0_32) :: (Value.int .u8 a0_33) :: (Value.int .u8 a0_34) :: (Value.int .u8 a0_35) :: (Value.slice a0_36.a a0_36.len a0_36.cap) :: [])⟩)]⟩ w fun e w' => ∃ y23 : SliceV, ∃ y24 : Int, e = .returned (Value.tuple ⟨[(Value.slice y23.a y23.len y23.cap), (Value.int .i64 y24)]⟩) ∧ K y23 y24 w'
theorem cm_relay_inner {a0_0 a0_1 a0_2 a0_3 a0_4 a0_5 a0_6 a0_7 a0_8 a0_9 a0_10 a0_11 a0_12 a0_13 a0_14 a0_15 a0_16 a0_17 a0_18 a0_19 a0_20 a0_21 a0_22 a0_23 a0_24 a0_25 a0_26 a0_27 a0_28 a0_29 a0_30 a0_31 a0_32 a0_33 a0_34 a0_35 a0_36 w K K'} (h : c_relay_inner a0_0 a0_1 a0_2 a0_3 a0_4 a0_5 a0_6 a0_7 a0_8 a0_9 a0_10 a0_11 a0_12 a0_13 a0_14 a0_15 a0_16 a0_17 a0_18 a0_19 a0_20 a0_21 a0_22 a0_23 a0_24 a0_25 a0_26 a0_27 a0_28 a0_29 a0_30 a0_31 a0_32 a0_33 a0_34 a0_35 a0_36 w K) (hk : ∀ x0 x1 w', K x0 x1 w' → K' x0 x1 w') : c_relay_inner a0_0 a0_1 a0_2 a0_3 a0_4 a0_5 a0_6 a0_7 a0_8 a0_9 a0_10 a0_11 a0_12 a0_13 a0_14 a0_15 a0_16 a0_17 a0_18 a0_19 a0_20 a0_21 a0_22 a0_23 a0_24 a0_25 a0_26 a0_27 a0_28 a0_29 a0_30 a0_31 a0_32 a0_33 a0_34 a0_35 a0_36 w K' :=
  Calls.mono h fun e w' hh => by obtain ⟨x0, x1, he, hx⟩ := hh; exact ⟨x0, x1, he, hk _ _ _ hx⟩

/-- goosepond/goosepondref06.read -/
abbrev n_ref06_read : FuncId := 71
def c_ref06_read (a0 : SliceV) (a1 : Bool) (w : World) (K : Int → Int → Int → Int → Int → Int → Int → Int → Int → Int → Int → Int → Int → Int → Int → Int → Int → Int → Int → Int → Int → Int → Int → Int → Int → Int → Int → Int → Int → Int → Int → Int → Int → Int → Int → Int → SliceV → Int → World → Prop) : Prop :=
  Calls Try.prog 71 ⟨[(Value.slice a0.a a0.len a0.cap), (Value.bool a1)]⟩ w fun e w' => ∃ y234 : Int, ∃ y235 : Int, ∃ y236 : Int, ∃ y237 : Int, ∃ y238 : Int, ∃ y239 : Int, ∃ y240 : Int, ∃ y241 : Int, ∃ y242 : Int, ∃ y243 : Int, ∃ y244 : Int, ∃ y245 : Int, ∃ y246 : Int, ∃ y247 : Int, ∃ y248 : Int, ∃ y249 : Int, ∃ y250 : Int, ∃ y251 : Int, ∃ y252 : Int, ∃ y253 : Int, ∃ y254 : Int, ∃ y255 : Int, ∃ y256 : Int, ∃ y257 : Int, ∃ y258 : Int, ∃ y259 : Int, ∃ y260 : Int, ∃ y261 : Int, ∃ y262 : Int, ∃ y263 : Int, ∃ y264 : Int, ∃ y265 : Int, ∃ y266 : Int, ∃ y267 : Int, ∃ y268 : Int, ∃ y269 : Int, ∃ y270 : SliceV, ∃ y271 : Int, e = .returned (Value.tuple ⟨[(Value.agg ⟨((Value.int .i64 y234) :: (Value.int .i64 y235) :: (Value.int .i64 y236) :: (Value.int .i64 y237) :: (Value.int .u8 y238) :: (Value.int .u8 y239) :: (Value.int .u8 y240) :: (Value.int .u8 y241) :: (Value.int .u8 y242) :: (Value.int .u8 y243) :: (Value.int .u8 y244) :: (Value.int .u8 y245) :: (Value.int .u8 y246) :: (Value.int .u8 y247) :: (Value.int .u8 y248) :: (Value.int .u8 y249) :: (Value.int .u8 y250) :: (Value.int .u8 y251) :: (Value.int .u8 y252) :: (Value.int .u8 y253) :: (Value.int .u8 y254) :: (Value.int .u8 y255) :: (Value.int .u8 y256) :: (Value.int .u8 y257) :: (Value.int .u8 y258) :: (Value.int .u8 y259) :: (Value.int .u8 y260) :: (Value.int .u8 y261) :: (Value.int .u8 y262) :: (Value.int .u8 y263) :: (Value.int .u8 y264) :: (Value.int .u8 y265) :: (Value.int .u8 y266) :: (Value.int .u8 y267) :: (Value.int .u8 y268) :: (Value.int .u8 y269) :: (Value.slice y270.a y270.len y270.cap) :: [])⟩), (Value.int .i64 y271)]⟩) ∧ K y234 y235 y236 y237 y238 y239 y240 y241 y242 y243 y244 y245 y246 y247 y248 y249 y250 y251 y252 y253 y254 y255 y256 y257 y258 y259 y260 y261 y262 y263 y264 y265 y266 y267 y268 y269 y270 y271 w'
theorem cm_ref06_read {a0 a1 w K K'} (h : c_ref06_read a0 a1 w K) (hk : ∀ x0 x1 x2 x3 x4 x5 x6 x7 x8 x9 x10 x11 x12 x13 x14 x15 x16 x17 x18 x19 x20 x21 x22 x23 x24 x25 x26 x27 x28 x29 x30 x31 x32 x33 x34 x35 x36 x37 w', K x0 x1 x2 x3 x4 x5 x6 x7 x8 x9 x10 x11 x12 x13 x14 x15 x16 x17 x18 x19 x20 x21 x22 x23 x24 x25 x26 x27 x28 x29 x30 x31 x32 x33 x34 x35 x36 x37 w' → K' x0 x1 x2 x3 x4 x5 x6 x7 x8 x9 x10 x11 x12 x13 x14 x15 x16 x17 x18 x19 x20 x21 x22 x23 x24 x25 x26 x27 x28 x29 x30 x31 x32 x33 x34 x35 x36 x37 w') : c_ref06_read a0 a1 w K' :=
  Calls.mono h fun e w' hh => by obtain ⟨x0, x1, x2, x3, x4, x5, x6, x7, x8, x9, x10, x11, x12, x13, x14, x15, x16, x17, x18, x19, x20, x21, x22, x23, x24, x25, x26, x27, x28, x29, x30, x31, x32, x33, x34, x35, x36, x37, he, hx⟩ := hh; exact ⟨x0, x1, x2, x3, x4, x5, x6, x7, x8, x9, x10, x11, x12, x13, x14, x15, x16, x17, x18, x19, x20, x21, x22, x23, x24, x25, x26, x27, x28, x29, x30, x31, x32, x33, x34, x35, x36, x37, he, hk _ _ _ _ _ _ _ _ _ _ _ _ _ _ _ _ _ _ _ _ _ _ _ _ _ _ _ _ _ _ _ _ _ _ _ _ _ _ _ hx⟩

/-- goosepond/goosepondref06.ParseFrag -/
abbrev n_ref06_ParseFrag : FuncId := 72
def c_ref06_ParseFrag (a0 : SliceV) (w : World) (K : Int → Int → Int → Bool → SliceV → Int → World → Prop) : Prop :=
  Calls Try.prog 72 ⟨[(Value.slice a0.a a0.len a0.cap)]⟩ w fun e w' => ∃ y25 : Int, ∃ y26 : Int, ∃ y27 : Int, ∃ y28 : Bool, ∃ y29 : SliceV, ∃ y30 : Int, e = .returned (Value.tuple ⟨[(Value.agg ⟨[(Value.int .i64 y25), (Value.int .i64 y26), (Value.int .i64 y27), (Value.bool y28)]⟩), (Value.slice y29.a y29.len y29.cap), (Value.int .i64 y30)]⟩) ∧ K y25 y26 y27 y28 y29 y30 w'
theorem cm_ref06_ParseFrag {a0 w K K'} (h : c_ref06_ParseFrag a0 w K) (hk : ∀ x0 x1 x2 x3 x4 x5 w', K x0 x1 x2 x3 x4 x5 w' → K' x0 x1 x2 x3 x4 x5 w') : c_ref06_ParseFrag a0 w K' :=
  Calls.mono h fun e w' hh => by obtain ⟨x0, x1, x2, x3, x4, x5, he, hx⟩ := hh; exact ⟨x0, x1, x2, x3, x4, x5, he, hk _ _ _ _ _ _ _ hx⟩

/-- goosepond/v6.read -/
abbrev n_v6_read : FuncId := 88
def c_v6_read (a0 : SliceV) (a1 : Bool) (w : World) (K : Int → Int → Int → Int → Int → Int → Int → Int → Int → Int → Int → Int → Int → Int → Int → Int → Int → Int → Int → Int → Int → Int → Int → Int → Int → Int → Int → Int → Int → Int → Int → Int → Int → Int → Int → Int → SliceV → Int → World → Prop) : Prop :=
  Calls Try.prog 88 ⟨[(Value.slice a0.a a0.len a0.cap), (Value.bool a1)]⟩ w fun e w' => ∃ y221 : Int, ∃ y222 : Int, ∃ y223 : Int, ∃ y224 : Int, ∃ y225 : Int, ∃ y226 : Int, ∃ y227 : Int, ∃ y228 : Int, ∃ y229 : Int, ∃ y230 : Int, ∃ y231 : Int, ∃ y232 : Int, ∃ y233 : Int, ∃ y234 : Int, ∃ y235 : Int, ∃ y236 : Int, ∃ y237 : Int, ∃ y238 : Int, ∃ y239 : Int, ∃ y240 : Int, ∃ y241 : Int, ∃ y242 : Int, ∃ y243 : Int, ∃ y244 : Int, ∃ y245 : Int, ∃ y246 : Int, ∃ y247 : Int, ∃ y248 : Int, ∃ y249 : Int, ∃ y250 : Int, ∃ y251 : Int, ∃ y252 : Int, ∃ y253 : Int, ∃ y254 : Int, ∃ y255 : Int, ∃ y256 : Int, ∃ y257 : SliceV, ∃ y258 : Int, e = .returned (Value.tuple ⟨[(Value.agg ⟨((Value.int .i64 y221) :: (Value.int .i64 y222) :: (Value.int .i64 y223) :: (Value.int .i64 y224) :: (Value.int .u8 y225) :: (Value.int .u8 y226) :: (Value.int .u8 y227) :: (Value.int .u8 y228) :: (Value.int .u8 y229) :: (Value.int .u8 y230) :: (Value.int .u8 y231) :: (Value.int .u8 y232) :: (Value.int .u8 y233) :: (Value.int .u8 y234) :: (Value.int .u8 y235) :: (Value.int .u8 y236) :: (Value.int .u8 y237) :: (Value.int .u8 y238) :: (Value.int .u8 y239) :: (Value.int .u8 y240) :: (Value.int .u8 y241) :: (Value.int .u8 y242) :: (Value.int .u8 y243) :: (Value.int .u8 y244) :: (Value.int .u8 y245) :: (Value.int .u8 y246) :: (Value.int .u8 y247) :: (Value.int .u8 y248) :: (Value.int .u8 y249) :: (Value.int .u8 y250) :: (Value.int .u8 y251) :: (Value.int .u8 y252) :: (Value.int .u8 y253) :: (Value.int .u8 y254) :: (Value.int .u8 y255) :: (Value.int .u8 y256) :: (Value.slice y257.a y257.len y257.cap) :: [])⟩), (Value.int .i64 y258)]⟩) ∧ K y221 y222 y223 y224 y225 y226 y227 y228 y229 y230 y231 y232 y233 y234 y235 y236 y237 y238 y239 y240 y241 y242 y243 y244 y245 y246 y247 y248 y249 y250 y251 y252 y253 y254 y255 y256 y257 y258 w'
theorem cm_v6_read {a0 a1 w K K'} (h : c_v6_read a0 a1 w K) (hk : ∀ x0 x1 x2 x3 x4 x5 x6 x7 x8 x9 x10 x11 x12 x13 x14 x15 x16 x17 x18 x19 x20 x21 x22 x23 x24 x25 x26 x27 x28 x29 x30 x31 x32 x33 x34 x35 x36 x37 w', K x0 x1 x2 x3 x4 x5 x6 x7 x8 x9 x10 x11 x12 x13 x14 x15 x16 x17 x18 x19 x20 x21 x22 x23 x24 x25 x26 x27 x28 x29 x30 x31 x32 x33 x34 x35 x36 x37 w' → K' x0 x1 x2 x3 x4 x5 x6 x7 x8 x9 x10 x11 x12 x13 x14 x15 x16 x17 x18 x19 x20 x21 x22 x23 x24 x25 x26 x27 x28 x29 x30 x31 x32 x33 x34 x35 x36 x37 w') : c_v6_read a0 a1 w K' :=
  Calls.mono h fun e w' hh => by obtain ⟨x0, x1, x2, x3, x4, x5, x6, x7, x8, x9, x10, x11, x12, x13, x14, x15, x16, x17, x18, x19, x20, x21, x22, x23, x24, x25, x26, x27, x28, x29, x30, x31, x32, x33, x34, x35, x36, x37, he, hx⟩ := hh; exact ⟨x0, x1, x2, x3, x4, x5, x6, x7, x8, x9, x10, x11, x12, x13, x14, x15, x16, x17, x18, x19, x20, x21, x22, x23, x24, x25, x26, x27, x28, x29, x30, x31, x32, x33, x34, x35, x36, x37, he, hk _ _ _ _ _ _ _ _ _ _ _ _ _ _ _ _ _ _ _ _ _ _ _ _ _ _ _ _ _ _ _ _ _ _ _ _ _ _ _ hx⟩

/-- goosepond/v6.ParseFrag -/
abbrev n_v6_ParseFrag : FuncId := 89
def c_v6_ParseFrag (a0 : SliceV) (w : World) (K : Int → Int → Int → Bool → SliceV → Int → World → Prop) : Prop :=
  Calls Try.prog 89 ⟨[(Value.slice a0.a a0.len a0.cap)]⟩ w fun e w' => ∃ y32 : Int, ∃ y33 : Int, ∃ y34 : Int, ∃ y35 : Bool, ∃ y36 : SliceV, ∃ y37 : Int, e = .returned (Value.tuple ⟨[(Value.agg ⟨[(Value.int .i64 y32), (Value.int .i64 y33), (Value.int .i64 y34), (Value.bool y35)]⟩), (Value.slice y36.a y36.len y36.cap), (Value.int .i64 y37)]⟩) ∧ K y32 y33 y34 y35 y36 y37 w'
theorem cm_v6_ParseFrag {a0 w K K'} (h : c_v6_ParseFrag a0 w K) (hk : ∀ x0 x1 x2 x3 x4 x5 w', K x0 x1 x2 x3 x4 x5 w' → K' x0 x1 x2 x3 x4 x5 w') : c_v6_ParseFrag a0 w K' :=
  Calls.mono h fun e w' hh => by obtain ⟨x0, x1, x2, x3, x4, x5, he, hx⟩ := hh; exact ⟨x0, x1, x2, x3, x4, x5, he, hk _ _ _ _ _ _ _ hx⟩

/-- goosepond/wrap.Wrap -/
def s_wrap_Wrap (a0_0 : Int) (a0_1 : Int) (a0_2 : Int) (a0_3 : Int) (a0_4 : Int) (a0_5 : Int) (a0_6 : Int) (a0_7 : Int) (a0_8 : Int) (a0_9 : Int) (a0_10 : Int) (a0_11 : Int) (a0_12 : Int) (a0_13 : Int) (a0_14 : Int) (a0_15 : Int) (a1_0 : Int) (a1_1 : Int) (a1_2 : Int) (a1_3 : Int) (a1_4 : Int) (a1_5 : Int) (a1_6 : Int) (a1_7 : Int) (a1_8 : Int) (a1_9 : Int) (a1_10 : Int) (a1_11 : Int) (a1_12 : Int) (a1_13 : Int) (a1_14 : Int) (a1_15 : Int) (a2 : Int) (a3 : SliceV) (w : World) (K : Int → Int → Int → Int → Int → Int → Int → Int → Int → Int → Int → Int → Int → Int → Int → Int → Int → Int → Int → Int → Int → Int → Int → Int → Int → Int → Int → Int → Int → Int → Int → Int → Int → Int → Int → Int → SliceV → Int → World → Prop) : Prop :=
 (Al w (.cells ⟨[(Value.int .u8 a0_0), (Value.int .u8 a0_1), (Value.int .u8 a0_2), (Value.int .u8 a0_3), (Value.int .u8 a0_4), (Value.int .u8 a0_5), (Value.int .u8 a0_6), (Value.int .u8 a0_7), (Value.int .u8 a0_8), (Value.int .u8 a0_9), (Value.int .u8 a0_10), (Value.int .u8 a0_11), (Value.int .u8 a0_12), (Value.int .u8 a0_13), (Value.int .u8 a0_14), (Value.int .u8 a0_15)]⟩ 27) fun a6 w5 =>
 Al w5 (.cells ⟨[(Value.int .u8 a1_0), (Value.int .u8 a1_1), (Value.int .u8 a1_2), (Value.int .u8 a1_3), (Value.int .u8 a1_4), (Value.int .u8 a1_5), (Value.int .u8 a1_6), (Value.int .u8 a1_7), (Value.int .u8 a1_8), (Value.int .u8 a1_9), (Value.int .u8 a1_10), (Value.int .u8 a1_11), (Value.int .u8 a1_12), (Value.int .u8 a1_13), (Value.int .u8 a1_14), (Value.int .u8 a1_15)]⟩ 27) fun a8 w7 =>
 Al w7 (.cells ⟨((Value.int .i64 0) :: (Value.int .i64 0) :: (Value.int .i64 0) :: (Value.int .i64 0) :: (Value.int .u8 0) :: (Value.int .u8 0) :: (Value.int .u8 0) :: (Value.int .u8 0) :: (Value.int .u8 0) :: (Value.int .u8 0) :: (Value.int .u8 0) :: (Value.int .u8 0) :: (Value.int .u8 0) :: (Value.int .u8 0) :: (Value.int .u8 0) :: (Value.int .u8 0) :: (Value.int .u8 0) :: (Value.int .u8 0) :: (Value.int .u8 0) :: (Value.int .u8 0) :: (Value.int .u8 0) :: (Value.int .u8 0) :: (Value.int .u8 0) :: (Value.int .u8 0) :: (Value.int .u8 0) :: (Value.int .u8 0) :: (Value.int .u8 0) :: (Value.int .u8 0) :: (Value.int .u8 0) :: (Value.int .u8 0) :: (Value.int .u8 0) :: (Value.int .u8 0) :: (Value.int .u8 0) :: (Value.int .u8 0) :: (Value.int .u8 0) :: (Value.int .u8 0) :: (Value.slice none 0 0) :: [])⟩ 33) fun a10 w9 =>
 Ld (.int .u8) w9 (a6.add 0) fun x11 =>
 Ld (.int .u8) w9 (a6.add 1) fun x12 =>
 Ld (.int .u8) w9 (a6.add 2) fun x13 =>
 Ld (.int .u8) w9 (a6.add 3) fun x14 =>
 Ld (.int .u8) w9 (a6.add 4) fun x15 =>
 Ld (.int .u8) w9 (a6.add 5) fun x16 =>
 Ld (.int .u8) w9 (a6.add 6) fun x17 =>
 Ld (.int .u8) w9 (a6.add 7) fun x18 =>
 Ld (.int .u8) w9 (a6.add 8) fun x19 =>
 Ld (.int .u8) w9 (a6.add 9) fun x20 =>
 Ld (.int .u8) w9 (a6.add 10) fun x21 =>
 Ld (.int .u8) w9 (a6.add 11) fun x22 =>
 Ld (.int .u8) w9 (a6.add 12) fun x23 =>
 Ld (.int .u8) w9 (a6.add 13) fun x24 =>
 Ld (.int .u8) w9 (a6.add 14) fun x25 =>
 Ld (.int .u8) w9 (a6.add 15) fun x26 =>
 Ld (.int .u8) w9 (a8.add 0) fun x27 =>
 Ld (.int .u8) w9 (a8.add 1) fun x28 =>
 Ld (.int .u8) w9 (a8.add 2) fun x29 =>
 Ld (.int .u8) w9 (a8.add 3) fun x30 =>
 Ld (.int .u8) w9 (a8.add 4) fun x31 =>
 Ld (.int .u8) w9 (a8.add 5) fun x32 =>
 Ld (.int .u8) w9 (a8.add 6) fun x33 =>
 Ld (.int .u8) w9 (a8.add 7) fun x34 =>
 Ld (.int .u8) w9 (a8.add 8) fun x35 =>
 Ld (.int .u8) w9 (a8.add 9) fun x36 =>
 Ld (.int .u8) w9 (a8.add 10) fun x37 =>
 Ld (.int .u8) w9 (a8.add 11) fun x38 =>
 Ld (.int .u8) w9 (a8.add 12) fun x39 =>
 Ld (.int .u8) w9 (a8.add 13) fun x40 =>
 Ld (.int .u8) w9 (a8.add 14) fun x41 =>
 Ld (.int .u8) w9 (a8.add 15) fun x42 =>
 Al w9 (.cells ⟨((Value.int .i64 0) :: (Value.int .i64 0) :: (Value.int .i64 0) :: (Value.int .i64 0) :: (Value.int .u8 0) :: (Value.int .u8 0) :: (Value.int .u8 0) :: (Value.int .u8 0) :: (Value.int .u8 0) :: (Value.int .u8 0) :: (Value.int .u8 0) :: (Value.int .u8 0) :: (Value.int .u8 0) :: (Value.int .u8 0) :: (Value.int .u8 0) :: (Value.int .u8 0) :: (Value.int .u8 0) :: (Value.int .u8 0) :: (Value.int .u8 0) :: (Value.int .u8 0) :: (Value.int .u8 0) :: (Value.int .u8 0) :: (Value.int .u8 0) :: (Value.int .u8 0) :: (Value.int .u8 0) :: (Value.int .u8 0) :: (Value.int .u8 0) :: (Value.int .u8 0) :: (Value.int .u8 0) :: (Value.int .u8 0) :: (Value.int .u8 0) :: (Value.int .u8 0) :: (Value.int .u8 0) :: (Value.int .u8 0) :: (Value.int .u8 0) :: (Value.int .u8 0) :: (Value.slice none 0 0) :: [])⟩ 33) fun a44 w43 =>
 StN ((Value.int .i64 0) :: (Value.int .i64 0) :: (Value.int .i64 4) :: (Value.int .i64 a2) :: (Value.int .u8 x11) :: (Value.int .u8 x12) :: (Value.int .u8 x13) :: (Value.int .u8 x14) :: (Value.int .u8 x15) :: (Value.int .u8 x16) :: (Value.int .u8 x17) :: (Value.int .u8 x18) :: (Value.int .u8 x19) :: (Value.int .u8 x20) :: (Value.int .u8 x21) :: (Value.int .u8 x22) :: (Value.int .u8 x23) :: (Value.int .u8 x24) :: (Value.int .u8 x25) :: (Value.int .u8 x26) :: (Value.int .u8 x27) :: (Value.int .u8 x28) :: (Value.int .u8 x29) :: (Value.int .u8 x30) :: (Value.int .u8 x31) :: (Value.int .u8 x32) :: (Value.int .u8 x33) :: (Value.int .u8 x34) :: (Value.int .u8 x35) :: (Value.int .u8 x36) :: (Value.int .u8 x37) :: (Value.int .u8 x38) :: (Value.int .u8 x39) :: (Value.int .u8 x40) :: (Value.int .u8 x41) :: (Value.int .u8 x42) :: (Value.slice none 0 0) :: []) w43 a44 0 fun w45 =>
 c_slices_Clone_byte_byte a3 w45 fun r46 w47 =>
 St w47 (a44.add 36) (Value.slice r46.a r46.len r46.cap) fun w48 =>
 Ld (.int .i64) w48 (a44.add 0) fun x49 =>
 Ld (.int .i64) w48 (a44.add 1) fun x50 =>
 Ld (.int .i64) w48 (a44.add 2) fun x51 =>
 Ld (.int .i64) w48 (a44.add 3) fun x52 =>
 Ld (.int .u8) w48 (a44.add 4) fun x53 =>
 Ld (.int .u8) w48 (a44.add 5) fun x54 =>
 Ld (.int .u8) w48 (a44.add 6) fun x55 =>
 Ld (.int .u8) w48 (a44.add 7) fun x56 =>
 Ld (.int .u8) w48 (a44.add 8) fun x57 =>
 Ld (.int .u8) w48 (a44.add 9) fun x58 =>
 Ld (.int .u8) w48 (a44.add 10) fun x59 =>
 Ld (.int .u8) w48 (a44.add 11) fun x60 =>
 Ld (.int .u8) w48 (a44.add 12) fun x61 =>
 Ld (.int .u8) w48 (a44.add 13) fun x62 =>
 Ld (.int .u8) w48 (a44.add 14) fun x63 =>
 Ld (.int .u8) w48 (a44.add 15) fun x64 =>
 Ld (.int .u8) w48 (a44.add 16) fun x65 =>
 Ld (.int .u8) w48 (a44.add 17) fun x66 =>
 Ld (.int .u8) w48 (a44.add 18) fun x67 =>
 Ld (.int .u8) w48 (a44.add 19) fun x68 =>
 Ld (.int .u8) w48 (a44.add 20) fun x69 =>
 Ld (.int .u8) w48 (a44.add 21) fun x70 =>
 Ld (.int .u8) w48 (a44.add 22) fun x71 =>
 Ld (.int .u8) w48 (a44.add 23) fun x72 =>
 Ld (.int .u8) w48 (a44.add 24) fun x73 =>
 Ld (.int .u8) w48 (a44.add 25) fun x74 =>
 Ld (.int .u8) w48 (a44.add 26) fun x75 =>
 Ld (.int .u8) w48 (a44.add 27) fun x76 =>
 Ld (.int .u8) w48 (a44.add 28) fun x77 =>
 Ld (.int .u8) w48 (a44.add 29) fun x78 =>
 Ld (.int .u8) w48 (a44.add 30) fun x79 =>
 Ld (.int .u8) w48 (a44.add 31) fun x80 =>
 Ld (.int .u8) w48 (a44.add 32) fun x81 =>
 Ld (.int .u8) w48 (a44.add 33) fun x82 =>
 Ld (.int .u8) w48 (a44.add 34) fun x83 =>
 Ld (.int .u8) w48 (a44.add 35) fun x84 =>
 Ld .slice w48 (a44.add 36) fun x85 =>
 c_v6_Check x49 x50 x51 x52 x53 x54 x55 x56 x57 x58 x59 x60 x61 x62 x63 x64 x65 x66 x67 x68 x69 x70 x71 x72 x73 x74 x75 x76 x77 x78 x79 x80 x81 x82 x83 x84 x85 w48 fun r86 w87 =>
 (bif (r86 != 0) then
 StN ((Value.int .i64 0) :: (Value.int .i64 0) :: (Value.int .i64 0) :: (Value.int .i64 0) :: (Value.int .u8 0) :: (Value.int .u8 0) :: (Value.int .u8 0) :: (Value.int .u8 0) :: (Value.int .u8 0) :: (Value.int .u8 0) :: (Value.int .u8 0) :: (Value.int .u8 0) :: (Value.int .u8 0) :: (Value.int .u8 0) :: (Value.int .u8 0) :: (Value.int .u8 0) :: (Value.int .u8 0) :: (Value.int .u8 0) :: (Value.int .u8 0) :: (Value.int .u8 0) :: (Value.int .u8 0) :: (Value.int .u8 0) :: (Value.int .u8 0) :: (Value.int .u8 0) :: (Value.int .u8 0) :: (Value.int .u8 0) :: (Value.int .u8 0) :: (Value.int .u8 0) :: (Value.int .u8 0) :: (Value.int .u8 0) :: (Value.int .u8 0) :: (Value.int .u8 0) :: (Value.int .u8 0) :: (Value.int .u8 0) :: (Value.int .u8 0) :: (Value.int .u8 0) :: (Value.slice none 0 0) :: []) w87 a10 0 fun w88 =>
 Ld (.int .i64) w88 (a10.add 0) fun y89 =>
 Ld (.int .i64) w88 (a10.add 1) fun y90 =>
 Ld (.int .i64) w88 (a10.add 2) fun y91 =>
 Ld (.int .i64) w88 (a10.add 3) fun y92 =>
 Ld (.int .u8) w88 (a10.add 4) fun y93 =>
 Ld (.int .u8) w88 (a10.add 5) fun y94 =>
 Ld (.int .u8) w88 (a10.add 6) fun y95 =>
 Ld (.int .u8) w88 (a10.add 7) fun y96 =>
 Ld (.int .u8) w88 (a10.add 8) fun y97 =>
 Ld (.int .u8) w88 (a10.add 9) fun y98 =>
 Ld (.int .u8) w88 (a10.add 10) fun y99 =>
 Ld (.int .u8) w88 (a10.add 11) fun y100 =>
 Ld (.int .u8) w88 (a10.add 12) fun y101 =>
 Ld (.int .u8) w88 (a10.add 13) fun y102 =>
 Ld (.int .u8) w88 (a10.add 14) fun y103 =>
 Ld (.int .u8) w88 (a10.add 15) fun y104 =>
 Ld (.int .u8) w88 (a10.add 16) fun y105 =>
 Ld (.int .u8) w88 (a10.add 17) fun y106 =>
 Ld (.int .u8) w88 (a10.add 18) fun y107 =>
 Ld (.int .u8) w88 (a10.add 19) fun y108 =>
 Ld (.int .u8) w88 (a10.add 20) fun y109 =>
 Ld (.int .u8) w88 (a10.add 21) fun y110 =>
 Ld (.int .u8) w88 (a10.add 22) fun y111 =>
 Ld (.int .u8) w88 (a10.add 23) fun y112 =>
 Ld (.int .u8) w88 (a10.add 24) fun y113 =>
 Ld (.int .u8) w88 (a10.add 25) fun y114 =>
 Ld (.int .u8) w88 (a10.add 26) fun y115 =>
 Ld (.int .u8) w88 (a10.add 27) fun y116 =>
 Ld (.int .u8) w88 (a10.add 28) fun y117 =>
 Ld (.int .u8) w88 (a10.add 29) fun y118 =>
 Ld (.int .u8) w88 (a10.add 30) fun y119 =>
 Ld (.int .u8) w88 (a10.add 31) fun y120 =>
 Ld (.int .u8) w88 (a10.add 32) fun y121 =>
 Ld (.int .u8) w88 (a10.add 33) fun y122 =>
 Ld (.int .u8) w88 (a10.add 34) fun y123 =>
 Ld (.int .u8) w88 (a10.add 35) fun y124 =>
 Ld .slice w88 (a10.add 36) fun y125 =>
 K y89 y90 y91 y92 y93 y94 y95 y96 y97 y98 y99 y100 y101 y102 y103 y104 y105 y106 y107 y108 y109 y110 y111 y112 y113 y114 y115 y116 y117 y118 y119 y120 y121 y122 y123 y124 y125 r86 w88
 else
 Ld (.int .i64) w87 (a44.add 0) fun x126 =>
 Ld (.int .i64) w87 (a44.add 1) fun x127 =>
 Ld (.int .i64) w87 (a44.add 2) fun x128 =>
 Ld (.int .i64) w87 (a44.add 3) fun x129 =>
 Ld (.int .u8) w87 (a44.add 4) fun x130 =>
 Ld (.int .u8) w87 (a44.add 5) fun x131 =>
 Ld (.int .u8) w87 (a44.add 6) fun x132 =>
 Ld (.int .u8) w87 (a44.add 7) fun x133 =>
 Ld (.int .u8) w87 (a44.add 8) fun x134 =>
 Ld (.int .u8) w87 (a44.add 9) fun x135 =>
 Ld (.int .u8) w87 (a44.add 10) fun x136 =>
 Ld (.int .u8) w87 (a44.add 11) fun x137 =>
 Ld (.int .u8) w87 (a44.add 12) fun x138 =>
 Ld (.int .u8) w87 (a44.add 13) fun x139 =>
 Ld (.int .u8) w87 (a44.add 14) fun x140 =>
 Ld (.int .u8) w87 (a44.add 15) fun x141 =>
 Ld (.int .u8) w87 (a44.add 16) fun x142 =>
 Ld (.int .u8) w87 (a44.add 17) fun x143 =>
 Ld (.int .u8) w87 (a44.add 18) fun x144 =>
 Ld (.int .u8) w87 (a44.add 19) fun x145 =>
 Ld (.int .u8) w87 (a44.add 20) fun x146 =>
 Ld (.int .u8) w87 (a44.add 21) fun x147 =>
 Ld (.int .u8) w87 (a44.add 22) fun x148 =>
 Ld (.int .u8) w87 (a44.add 23) fun x149 =>
 Ld (.int .u8) w87 (a44.add 24) fun x150 =>
 Ld (.int .u8) w87 (a44.add 25) fun x151 =>
 Ld (.int .u8) w87 (a44.add 26) fun x152 =>
 Ld (.int .u8) w87 (a44.add 27) fun x153 =>
 Ld (.int .u8) w87 (a44.add 28) fun x154 =>
 Ld (.int .u8) w87 (a44.add 29) fun x155 =>
 Ld (.int .u8) w87 (a44.add 30) fun x156 =>
 Ld (.int .u8) w87 (a44.add 31) fun x157 =>
 Ld (.int .u8) w87 (a44.add 32) fun x158 =>
 Ld (.int .u8) w87 (a44.add 33) fun x159 =>
 Ld (.int .u8) w87 (a44.add 34) fun x160 =>
 Ld (.int .u8) w87 (a44.add 35) fun x161 =>
 Ld .slice w87 (a44.add 36) fun x162 =>
 StN ((Value.int .i64 x126) :: (Value.int .i64 x127) :: (Value.int .i64 x128) :: (Value.int .i64 x129) :: (Value.int .u8 x130) :: (Value.int .u8 x131) :: (Value.int .u8 x132) :: (Value.int .u8 x133) :: (Value.int .u8 x134) :: (Value.int .u8 x135) :: (Value.int .u8 x136) :: (Value.int .u8 x137) :: (Value.int .u8 x138) :: (Value.int .u8 x139) :: (Value.int .u8 x140) :: (Value.int .u8 x141) :: (Value.int .u8 x142) :: (Value.int .u8 x143) :: (Value.int .u8 x144) :: (Value.int .u8 x145) :: (Value.int .u8 x146) :: (Value.int .u8 x147) :: (Value.int .u8 x148) :: (Value.int .u8 x149) :: (Value.int .u8 x150) :: (Value.int .u8 x151) :: (Value.int .u8 x152) :: (Value.int .u8 x153) :: (Value.int .u8 x154) :: (Value.int .u8 x155) :: (Value.int .u8 x156) :: (Value.int .u8 x157) :: (Value.int .u8 x158) :: (Value.int .u8 x159) :: (Value.int .u8 x160) :: (Value.int .u8 x161) :: (Value.slice x162.a x162.len x162.cap) :: []) w87 a10 0 fun w163 =>
 Ld (.int .i64) w163 (a10.add 0) fun y164 =>
 Ld (.int .i64) w163 (a10.add 1) fun y165 =>
 Ld (.int .i64) w163 (a10.add 2) fun y166 =>
 Ld (.int .i64) w163 (a10.add 3) fun y167 =>
 Ld (.int .u8) w163 (a10.add 4) fun y168 =>
 Ld (.int .u8) w163 (a10.add 5) fun y169 =>
 Ld (.int .u8) w163 (a10.add 6) fun y170 =>
 Ld (.int .u8) w163 (a10.add 7) fun y171 =>
 Ld (.int .u8) w163 (a10.add 8) fun y172 =>
 Ld (.int .u8) w163 (a10.add 9) fun y173 =>
 Ld (.int .u8) w163 (a10.add 10) fun y174 =>
 Ld (.int .u8) w163 (a10.add 11) fun y175 =>
 Ld (.int .u8) w163 (a10.add 12) fun y176 =>
 Ld (.int .u8) w163 (a10.add 13) fun y177 =>
 Ld (.int .u8) w163 (a10.add 14) fun y178 =>
 Ld (.int .u8) w163 (a10.add 15) fun y179 =>
 Ld (.int .u8) w163 (a10.add 16) fun y180 =>
 Ld (.int .u8) w163 (a10.add 17) fun y181 =>
 Ld (.int .u8) w163 (a10.add 18) fun y182 =>
 Ld (.int .u8) w163 (a10.add 19) fun y183 =>
 Ld (.int .u8) w163 (a10.add 20) fun y184 =>
 Ld (.int .u8) w163 (a10.add 21) fun y185 =>
 Ld (.int .u8) w163 (a10.add 22) fun y186 =>
 Ld (.int .u8) w163 (a10.add 23) fun y187 =>
 Ld (.int .u8) w163 (a10.add 24) fun y188 =>
 Ld (.int .u8) w163 (a10.add 25) fun y189 =>
 Ld (.int .u8) w163 (a10.add 26) fun y190 =>
 Ld (.int .u8) w163 (a10.add 27) fun y191 =>
 Ld (.int .u8) w163 (a10.add 28) fun y192 =>
 Ld (.int .u8) w163 (a10.add 29) fun y193 =>
 Ld (.int .u8) w163 (a10.add 30) fun y194 =>
 Ld (.int .u8) w163 (a10.add 31) fun y195 =>
 Ld (.int .u8) w163 (a10.add 32) fun y196 =>
 Ld (.int .u8) w163 (a10.add 33) fun y197 =>
 Ld (.int .u8) w163 (a10.add 34) fun y198 =>
 Ld (.int .u8) w163 (a10.add 35) fun y199 =>
 Ld .slice w163 (a10.add 36) fun y200 =>
 K y164 y165 y166 y167 y168 y169 y170 y171 y172 y173 y174 y175 y176 y177 y178 y179 y180 y181 y182 y183 y184 y185 y186 y187 y188 y189 y190 y191 y192 y193 y194 y195 y196 y197 y198 y199 y200 0 w163))
theorem e_wrap_Wrap (a0_0 : Int) (a0_1 : Int) (a0_2 : Int) (a0_3 : Int) (a0_4 : Int) (a0_5 : Int) (a0_6 : Int) (a0_7 : Int) (a0_8 : Int) (a0_9 : Int) (a0_10 : Int) (a0_11 : Int) (a0_12 : Int) (a0_13 : Int) (a0_14 : Int) (a0_15 : Int) (a1_0 : Int) (a1_1 : Int) (a1_2 : Int) (a1_3 : Int) (a1_4 : Int) (a1_5 : Int) (a1_6 : Int) (a1_7 : Int) (a1_8 : Int) (a1_9 : Int) (a1_10 : Int) (a1_11 : Int) (a1_12 : Int) (a1_13 : Int) (a1_14 : Int) (a1_15 : Int) (a2 : Int) (a3 : SliceV) (w : World) (K : Int → Int → Int → Int → Int → Int → Int → Int → Int → Int → Int → Int → Int → Int → Int → Int → Int → Int → Int → Int → Int → Int → Int → Int → Int → Int → Int → Int → Int → Int → Int → Int → Int → Int → Int → Int → SliceV → Int → World → Prop) : den Try.prog 26 (bodyOf Try.f12) none (.seq .leaf (.seq .leaf (.seq .leaf (.seq (.seq .leaf (.seq .leaf (.cond (.seq .leaf .leaf) .leaf))) (.seq .leaf .leaf))))) (argEnv 0 [(Value.agg ⟨[(Value.int .u8 a0_0), (Value.int .u8 a0_1), (Value.int .u8 a0_2), (Value.int .u8 a0_3), (Value.int .u8 a0_4), (Value.int .u8 a0_5), (Value.int .u8 a0_6), (Value.int .u8 a0_7), (Value.int .u8 a0_8), (Value.int .u8 a0_9), (Value.int .u8 a0_10), (Value.int .u8 a0_11), (Value.int .u8 a0_12), (Value.int .u8 a0_13), (Value.int .u8 a0_14), (Value.int .u8 a0_15)]⟩), (Value.agg ⟨[(Value.int .u8 a1_0), (Value.int .u8 a1_1), (Value.int .u8 a1_2), (Value.int .u8 a1_3), (Value.int .u8 a1_4), (Value.int .u8 a1_5), (Value.int .u8 a1_6), (Value.int .u8 a1_7), (Value.int .u8 a1_8), (Value.int .u8 a1_9), (Value.int .u8 a1_10), (Value.int .u8 a1_11), (Value.int .u8 a1_12), (Value.int .u8 a1_13), (Value.int .u8 a1_14), (Value.int .u8 a1_15)]⟩), (Value.int .i64 a2), (Value.slice a3.a a3.len a3.cap)]) [] w (retK Try.prog [.cell 8 33, .tmp 9] [.agg ((.int .i64) :: (.int .i64) :: (.int .i64) :: (.int .i64) :: (.int .u8) :: (.int .u8) :: (.int .u8) :: (.int .u8) :: (.int .u8) :: (.int .u8) :: (.int .u8) :: (.int .u8) :: (.int .u8) :: (.int .u8) :: (.int .u8) :: (.int .u8) :: (.int .u8) :: (.int .u8) :: (.int .u8) :: (.int .u8) :: (.int .u8) :: (.int .u8) :: (.int .u8) :: (.int .u8) :: (.int .u8) :: (.int .u8) :: (.int .u8) :: (.int .u8) :: (.int .u8) :: (.int .u8) :: (.int .u8) :: (.int .u8) :: (.int .u8) :: (.int .u8) :: (.int .u8) :: (.int .u8) :: .slice :: []), .one (.int .i64)] K) = s_wrap_Wrap a0_0 a0_1 a0_2 a0_3 a0_4 a0_5 a0_6 a0_7 a0_8 a0_9 a0_10 a0_11 a0_12 a0_13 a0_14 a0_15 a1_0 a1_1 a1_2 a1_3 a1_4 a1_5 a1_6 a1_7 a1_8 a1_9 a1_10 a1_11 a1_12 a1_13 a1_14 a1_15 a2 a3 w K := by kernel_rfl
theorem ok_wrap_Wrap {a0_0 a0_1 a0_2 a0_3 a0_4 a0_5 a0_6 a0_7 a0_8 a0_9 a0_10 a0_11 a0_12 a0_13 a0_14 a0_15 a1_0 a1_1 a1_2 a1_3 a1_4 a1_5 a1_6 a1_7 a1_8 a1_9 a1_10 a1_11 a1_12 a1_13 a1_14 a1_15 a2 a3 w K} (h : s_wrap_Wrap a0_0 a0_1 a0_2 a0_3 a0_4 a0_5 a0_6 a0_7 a0_8 a0_9 a0_10 a0_11 a0_12 a0_13 a0_14 a0_15 a1_0 a1_1 a1_2 a1_3 a1_4 a1_5 a1_6 a1_7 a1_8 a1_9 a1_10 a1_11 a1_12 a1_13 a1_14 a1_15 a2 a3 w K) : c_wrap_Wrap a0_0 a0_1 a0_2 a0_3 a0_4 a0_5 a0_6 a0_7 a0_8 a0_9 a0_10 a0_11 a0_12 a0_13 a0_14 a0_15 a1_0 a1_1 a1_2 a1_3 a1_4 a1_5 a1_6 a1_7 a1_8 a1_9 a1_10 a1_11 a1_12 a1_13 a1_14 a1_15 a2 a3 w K := by
  have t := fn_sound pok Try.func12 (fn := Try.f12) (c := bodyOf Try.f12) (nt := 26) (by kernel_rfl) (by kernel_rfl) (rs := [.cell 8 33, .tmp 9]) (by kernel_rfl) [.agg ((.int .i64) :: (.int .i64) :: (.int .i64) :: (.int .i64) :: (.int .u8) :: (.int .u8) :: (.int .u8) :: (.int .u8) :: (.int .u8) :: (.int .u8) :: (.int .u8) :: (.int .u8) :: (.int .u8) :: (.int .u8) :: (.int .u8) :: (.int .u8) :: (.int .u8) :: (.int .u8) :: (.int .u8) :: (.int .u8) :: (.int .u8) :: (.int .u8) :: (.int .u8) :: (.int .u8) :: (.int .u8) :: (.int .u8) :: (.int .u8) :: (.int .u8) :: (.int .u8) :: (.int .u8) :: (.int .u8) :: (.int .u8) :: (.int .u8) :: (.int .u8) :: (.int .u8) :: (.int .u8) :: .slice :: []), .one (.int .i64)] K (.seq .leaf (.seq .leaf (.seq .leaf (.seq (.seq .leaf (.seq .leaf (.cond (.seq .leaf .leaf) .leaf))) (.seq .leaf .leaf))))) [(Value.agg ⟨[(Value.int .u8 a0_0), (Value.int .u8 a0_1), (Value.int .u8 a0_2), (Value.int .u8 a0_3), (Value.int .u8 a0_4), (Value.int .u8 a0_5), (Value.int .u8 a0_6), (Value.int .u8 a0_7), (Value.int .u8 a0_8), (Value.int .u8 a0_9), (Value.int .u8 a0_10), (Value.int .u8 a0_11), (Value.int .u8 a0_12), (Value.int .u8 a0_13), (Value.int .u8 a0_14), (Value.int .u8 a0_15)]⟩), (Value.agg ⟨[(Value.int .u8 a1_0), (Value.int .u8 a1_1), (Value.int .u8 a1_2), (Value.int .u8 a1_3), (Value.int .u8 a1_4), (Value.int .u8 a1_5), (Value.int .u8 a1_6), (Value.int .u8 a1_7), (Value.int .u8 a1_8), (Value.int .u8 a1_9), (Value.int .u8 a1_10), (Value.int .u8 a1_11), (Value.int .u8 a1_12), (Value.int .u8 a1_13), (Value.int .u8 a1_14), (Value.int .u8 a1_15)]⟩), (Value.int .i64 a2), (Value.slice a3.a a3.len a3.cap)] (by kernel_rfl) w ((e_wrap_Wrap a0_0 a0_1 a0_2 a0_3 a0_4 a0_5 a0_6 a0_7 a0_8 a0_9 a0_10 a0_11 a0_12 a0_13 a0_14 a0_15 a1_0 a1_1 a1_2 a1_3 a1_4 a1_5 a1_6 a1_7 a1_8 a1_9 a1_10 a1_11 a1_12 a1_13 a1_14 a1_15 a2 a3 w K).mpr h)
  exact Eq.mp (by kernel_rfl) t

/-- goosepond/v6.Build -/
def s_v6_Build (a0_0 : Int) (a0_1 : Int) (a0_2 : Int) (a0_3 : Int) (a0_4 : Int) (a0_5 : Int) (a0_6 : Int) (a0_7 : Int) (a0_8 : Int) (a0_9 : Int) (a0_10 : Int) (a0_11 : Int) (a0_12 : Int) (a0_13 : Int) (a0_14 : Int) (a0_15 : Int) (a0_16 : Int) (a0_17 : Int) (a0_18 : Int) (a0_19 : Int) (a0_20 : Int) (a0_21 : Int) (a0_22 : Int) (a0_23 : Int) (a0_24 : Int) (a0_25 : Int) (a0_26 : Int) (a0_27 : Int) (a0_28 : Int) (a0_29 : Int) (a0_30 : Int) (a0_31 : Int) (a0_32 : Int) (a0_33 : Int) (a0_34 : Int) (a0_35 : Int) (a0_36 : SliceV) (w : World) (K : SliceV → Int → World → Prop) : Prop :=
 (Al w (.cells ⟨((Value.int .i64 a0_0) :: (Value.int .i64 a0_1) :: (Value.int .i64 a0_2) :: (Value.int .i64 a0_3) :: (Value.int .u8 a0_4) :: (Value.int .u8 a0_5) :: (Value.int .u8 a0_6) :: (Value.int .u8 a0_7) :: (Value.int .u8 a0_8) :: (Value.int .u8 a0_9) :: (Value.int .u8 a0_10) :: (Value.int .u8 a0_11) :: (Value.int .u8 a0_12) :: (Value.int .u8 a0_13) :: (Value.int .u8 a0_14) :: (Value.int .u8 a0_15) :: (Value.int .u8 a0_16) :: (Value.int .u8 a0_17) :: (Value.int .u8 a0_18) :: (Value.int .u8 a0_19) :: (Value.int .u8 a0_20) :: (Value.int .u8 a0_21) :: (Value.int .u8 a0_22) :: (Value.int .u8 a0_23) :: (Value.int .u8 a0_24) :: (Value.int .u8 a0_25) :: (Value.int .u8 a0_26) :: (Value.int .u8 a0_27) :: (Value.int .u8 a0_28) :: (Value.int .u8 a0_29) :: (Value.int .u8 a0_30) :: (Value.int .u8 a0_31) :: (Value.int .u8 a0_32) :: (Value.int .u8 a0_33) :: (Value.int .u8 a0_34) :: (Value.int .u8 a0_35) :: (Value.slice a0_36.a a0_36.len a0_36.cap) :: [])⟩ 33) fun a3 w2 =>
 Ld (.int .i64) w2 (a3.add 0) fun x4 =>
 Ld (.int .i64) w2 (a3.add 1) fun x5 =>
 Ld (.int .i64) w2 (a3.add 2) fun x6 =>
 Ld (.int .i64) w2 (a3.add 3) fun x7 =>
 Ld (.int .u8) w2 (a3.add 4) fun x8 =>
 Ld (.int .u8) w2 (a3.add 5) fun x9 =>
 Ld (.int .u8) w2 (a3.add 6) fun x10 =>
 Ld (.int .u8) w2 (a3.add 7) fun x11 =>
 Ld (.int .u8) w2 (a3.add 8) fun x12 =>
 Ld (.int .u8) w2 (a3.add 9) fun x13 =>
 Ld (.int .u8) w2 (a3.add 10) fun x14 =>
 Ld (.int .u8) w2 (a3.add 11) fun x15 =>
 Ld (.int .u8) w2 (a3.add 12) fun x16 =>
 Ld (.int .u8) w2 (a3.add 13) fun x17 =>
 Ld (.int .u8) w2 (a3.add 14) fun x18 =>
 Ld (.int .u8) w2 (a3.add 15) fun x19 =>
 Ld (.int .u8) w2 (a3.add 16) fun x20 =>
 Ld (.int .u8) w2 (a3.add 17) fun x21 =>
 Ld (.int .u8) w2 (a3.add 18) fun x22 =>
 Ld (.int .u8) w2 (a3.add 19) fun x23 =>
 Ld (.int .u8) w2 (a3.add 20) fun x24 =>
 Ld (.int .u8) w2 (a3.add 21) fun x25 =>
 Ld (.int .u8) w2 (a3.add 22) fun x26 =>
 Ld (.int .u8) w2 (a3.add 23) fun x27 =>
 Ld (.int .u8) w2 (a3.add 24) fun x28 =>
 Ld (.int .u8) w2 (a3.add 25) fun x29 =>
 Ld (.int .u8) w2 (a3.add 26) fun x30 =>
 Ld (.int .u8) w2 (a3.add 27) fun x31 =>
 Ld (.int .u8) w2 (a3.add 28) fun x32 =>
 Ld (.int .u8) w2 (a3.add 29) fun x33 =>
 Ld (.int .u8) w2 (a3.add 30) fun x34 =>
 Ld (.int .u8) w2 (a3.add 31) fun x35 =>
 Ld (.int .u8) w2 (a3.add 32) fun x36 =>
 Ld (.int .u8) w2 (a3.add 33) fun x37 =>
 Ld (.int .u8) w2 (a3.add 34) fun x38 =>
 Ld (.int .u8) w2 (a3.add 35) fun x39 =>
 Ld .slice w2 (a3.add 36) fun x40 =>
 c_v6_Check x4 x5 x6 x7 x8 x9 x10 x11 x12 x13 x14 x15 x16 x17 x18 x19 x20 x21 x22 x23 x24 x25 x26 x27 x28 x29 x30 x31 x32 x33 x34 x35 x36 x37 x38 x39 x40 w2 fun r41 w42 =>
 (bif (r41 != 0) then
 K ⟨none, 0, 0⟩ r41 w42
 else
 Ld (.int .i64) w42 a3 fun x43 =>
 0 ≤ (20 : Int) ∧
 Ld (.int .i64) w42 (a3.add 1) fun x44 =>
 c_be_Put ⟨none, 0, 0⟩ (orI .i64 (orI .i64 1610612736 (shlI .i64 x43 20)) x44) 4 w42 fun r45 w46 =>
 Ld .slice w46 (a3.add 36) fun x47 =>
 c_be_Put r45 (x47.len : Int) 2 w46 fun r48 w49 =>
 Ld (.int .i64) w49 (a3.add 2) fun x50 =>
 Ld (.int .i64) w49 (a3.add 3) fun x51 =>
 Al w49 (.cells ⟨[(Value.int .u8 (IntKind.u8.wrap x50)), (Value.int .u8 (IntKind.u8.wrap x51))]⟩ 5) fun a53 w52 =>
 AppSl 5 1 1 [(Value.int .u8 0)] r48 ⟨(some a53), 2, 2⟩ w52 fun s54 w55 =>
 SubArr (a3.add 4) 16 1 0 (16 : Int) fun s56 =>
 SubArr (a3.add 20) 16 1 0 (16 : Int) fun s57 =>
 Ld .slice w55.drew (a3.add 36) fun x58 =>
 Al w55.drew (.cells ⟨[(Value.slice s54.a s54.len s54.cap), (Value.slice s56.a s56.len s56.cap), (Value.slice s57.a s57.len s57.cap), (Value.slice x58.a x58.len x58.cap)]⟩ 30) fun a60 w59 =>
 c_slices_Concat_byte_byte ⟨(some a60), 4, 4⟩ w59 fun r61 w62 =>
 K r61 0 w62))
theorem e_v6_Build (a0_0 : Int) (a0_1 : Int) (a0_2 : Int) (a0_3 : Int) (a0_4 : Int) (a0_5 : Int) (a0_6 : Int) (a0_7 : Int) (a0_8 : Int) (a0_9 : Int) (a0_10 : Int) (a0_11 : Int) (a0_12 : Int) (a0_13 : Int) (a0_14 : Int) (a0_15 : Int) (a0_16 : Int) (a0_17 : Int) (a0_18 : Int) (a0_19 : Int) (a0_20 : Int) (a0_21 : Int) (a0_22 : Int) (a0_23 : Int) (a0_24 : Int) (a0_25 : Int) (a0_26 : Int) (a0_27 : Int) (a0_28 : Int) (a0_29 : Int) (a0_30 : Int) (a0_31 : Int) (a0_32 : Int) (a0_33 : Int) (a0_34 : Int) (a0_35 : Int) (a0_36 : SliceV) (w : World) (K : SliceV → Int → World → Prop) : den Try.prog 44 (bodyOf Try.f13) none (.seq .leaf (.seq (.seq .leaf (.seq .leaf (.cond (.seq .leaf .leaf) .leaf))) (.seq .leaf (.seq .leaf (.seq .leaf (.seq .leaf (.seq .leaf .leaf))))))) (argEnv 0 [(Value.agg ⟨((Value.int .i64 a0_0) :: (Value.int .i64 a0_1) :: (Value.int .i64 a0_2) :: (Value.int .i64 a0_3) :: (Value.int .u8 a0_4) :: (Value.int .u8 a0_5) :: (Value.int .u8 a0_6) :: (Value.int .u8 a0_7) :: (Value.int .u8 a0_8) :: (Value.int .u8 a0_9) :: (Value.int .u8 a0_10) :: (Value.int .u8 a0_11) :: (Value.int .u8 a0_12) :: (Value.int .u8 a0_13) :: (Value.int .u8 a0_14) :: (Value.int .u8 a0_15) :: (Value.int .u8 a0_16) :: (Value.int .u8 a0_17) :: (Value.int .u8 a0_18) :: (Value.int .u8 a0_19) :: (Value.int .u8 a0_20) :: (Value.int .u8 a0_21) :: (Value.int .u8 a0_22) :: (Value.int .u8 a0_23) :: (Value.int .u8 a0_24) :: (Value.int .u8 a0_25) :: (Value.int .u8 a0_26) :: (Value.int .u8 a0_27) :: (Value.int .u8 a0_28) :: (Value.int .u8 a0_29) :: (Value.int .u8 a0_30) :: (Value.int .u8 a0_31) :: (Value.int .u8 a0_32) :: (Value.int .u8 a0_33) :: (Value.int .u8 a0_34) :: (Value.int .u8 a0_35) :: (Value.slice a0_36.a a0_36.len a0_36.cap) :: [])⟩)]) [] w (retK Try.prog [.tmp 2, .tmp 3] [.one .slice, .one (.int .i64)] K) = s_v6_Build a0_0 a0_1 a0_2 a0_3 a0_4 a0_5 a0_6 a0_7 a0_8 a0_9 a0_10 a0_11 a0_12 a0_13 a0_14 a0_15 a0_16 a0_17 a0_18 a0_19 a0_20 a0_21 a0_22 a0_23 a0_24 a0_25 a0_26 a0_27 a0_28 a0_29 a0_30 a0_31 a0_32 a0_33 a0_34 a0_35 a0_36 w K := by kernel_rfl
theorem ok_v6_Build {a0_0 a0_1 a0_2 a0_3 a0_4 a0_5 a0_6 a0_7 a0_8 a0_9 a0_10 a0_11 a0_12 a0_13 a0_14 a0_15 a0_16 a0_17 a0_18 a0_19 a0_20 a0_21 a0_22 a0_23 a0_24 a0_25 a0_26 a0_27 a0_28 a0_29 a0_30 a0_31 a0_32 a0_33 a0_34 a0_35 a0_36 w K} (h : s_v6_Build a0_0 a0_1 a0_2 a0_3 a0_4 a0_5 a0_6 a0_7 a0_8 a0_9 a0_10 a0_11 a0_12 a0_13 a0_14 a0_15 a0_16 a0_17 a0_18 a0_19 a0_20 a0_21 a0_22 a0_23 a0_24 a0_25 a0_26 a0_27 a0_28 a0_29 a0_30 a0_31 a0_32 a0_33 a0_34 a0_35 a0_36 w K) : c_v6_Build a0_0 a0_1 a0_2 a0_3 a0_4 a0_5 a0_6 a0_7 a0_8 a0_9 a0_10 a0_11 a0_12 a0_13 a0_14 a0_15 a0_16 a0_17 a0_18 a0_19 a0_20 a0_21 a0_22 a0_23 a0_24 a0_25 a0_26 a0_27 a0_28 a0_29 a0_30 a0_31 a0_32 a0_33 a0_34 a0_35 a0_36 w K :=
  fn_sound pok Try.func13 (fn := Try.f13) (c := bodyOf Try.f13) (nt := 44) (by kernel_rfl) (by kernel_rfl) (rs := [.tmp 2, .tmp 3]) (by kernel_rfl) [.one .slice, .one (.int .i64)] K (.seq .leaf (.seq (.seq .leaf (.seq .leaf (.cond (.seq .leaf .leaf) .leaf))) (.seq .leaf (.seq .leaf (.seq .leaf (.seq .leaf (.seq .leaf .leaf))))))) [(Value.agg ⟨((Value.int .i64 a0_0) :: (Value.int .i64 a0_1) :: (Value.int .i64 a0_2) :: (Value.int .i64 a0_3) :: (Value.int .u8 a0_4) :: (Value.int .u8 a0_5) :: (Value.int .u8 a0_6) :: (Value.int .u8 a0_7) :: (Value.int .u8 a0_8) :: (Value.int .u8 a0_9) :: (Value.int .u8 a0_10) :: (Value.int .u8 a0_11) :: (Value.int .u8 a0_12) :: (Value.int .u8 a0_13) :: (Value.int .u8 a0_14) :: (Value.int .u8 a0_15) :: (Value.int .u8 a0_16) :: (Value.int .u8 a0_17) :: (Value.int .u8 a0_18) :: (Value.int .u8 a0_19) :: (Value.int .u8 a0_20) :: (Value.int .u8 a0_21) :: (Value.int .u8 a0_22) :: (Value.int .u8 a0_23) :: (Value.int .u8 a0_24) :: (Value.int .u8 a0_25) :: (Value.int .u8 a0_26) :: (Value.int .u8 a0_27) :: (Value.int .u8 a0_28) :: (Value.int .u8 a0_29) :: (Value.int .u8 a0_30) :: (Value.int .u8 a0_31) :: (Value.int .u8 a0_32) :: (Value.int .u8 a0_33) :: (Value.int .u8 a0_34) :: (Value.int .u8 a0_35) :: (Value.slice a0_36.a a0_36.len a0_36.cap) :: [])⟩)] (by kernel_rfl) w ((e_v6_Build a0_0 a0_1 a0_2 a0_3 a0_4 a0_5 a0_6 a0_7 a0_8 a0_9 a0_10 a0_11 a0_12 a0_13 a0_14 a0_15 a0_16 a0_17 a0_18 a0_19 a0_20 a0_21 a0_22 a0_23 a0_24 a0_25 a0_26 a0_27 a0_28 a0_29 a0_30 a0_31 a0_32 a0_33 a0_34 a0_35 a0_36 w K).mpr h)

/-- goosepond/v6.Check -/
def s_v6_Check (a0_0 : Int) (a0_1 : Int) (a0_2 : Int) (a0_3 : Int) (a0_4 : Int) (a0_5 : Int) (a0_6 : Int) (a0_7 : Int) (a0_8 : Int) (a0_9 : Int) (a0_10 : Int) (a0_11 : Int) (a0_12 : Int) (a0_13 : Int) (a0_14 : Int) (a0_15 : Int) (a0_16 : Int) (a0_17 : Int) (a0_18 : Int) (a0_19 : Int) (a0_20 : Int) (a0_21 : Int) (a0_22 : Int) (a0_23 : Int) (a0_24 : Int) (a0_25 : Int) (a0_26 : Int) (a0_27 : Int) (a0_28 : Int) (a0_29 : Int) (a0_30 : Int) (a0_31 : Int) (a0_32 : Int) (a0_33 : Int) (a0_34 : Int) (a0_35 : Int) (a0_36 : SliceV) (w : World) (K : Int → World → Prop) : Prop :=
 (Al w (.cells ⟨((Value.int .i64 a0_0) :: (Value.int .i64 a0_1) :: (Value.int .i64 a0_2) :: (Value.int .i64 a0_3) :: (Value.int .u8 a0_4) :: (Value.int .u8 a0_5) :: (Value.int .u8 a0_6) :: (Value.int .u8 a0_7) :: (Value.int .u8 a0_8) :: (Value.int .u8 a0_9) :: (Value.int .u8 a0_10) :: (Value.int .u8 a0_11) :: (Value.int .u8 a0_12) :: (Value.int .u8 a0_13) :: (Value.int .u8 a0_14) :: (Value.int .u8 a0_15) :: (Value.int .u8 a0_16) :: (Value.int .u8 a0_17) :: (Value.int .u8 a0_18) :: (Value.int .u8 a0_19) :: (Value.int .u8 a0_20) :: (Value.int .u8 a0_21) :: (Value.int .u8 a0_22) :: (Value.int .u8 a0_23) :: (Value.int .u8 a0_24) :: (Value.int .u8 a0_25) :: (Value.int .u8 a0_26) :: (Value.int .u8 a0_27) :: (Value.int .u8 a0_28) :: (Value.int .u8 a0_29) :: (Value.int .u8 a0_30) :: (Value.int .u8 a0_31) :: (Value.int .u8 a0_32) :: (Value.int .u8 a0_33) :: (Value.int .u8 a0_34) :: (Value.int .u8 a0_35) :: (Value.slice a0_36.a a0_36.len a0_36.cap) :: [])⟩ 33) fun a3 w2 =>
 let J4 : Bool → World → Prop := fun j5 w6 =>
 ((bif j5 then
 K 1 w6
 else
 let J7 : Bool → Prop := fun j8 =>
 ((bif j8 then
 K 1 w6
 else
 Ld .slice w6 (a3.add 36) fun x9 =>
 (bif (decide ((x9.len : Int) > 65535)) then
 K 6 w6
 else
 K 0 w6)))
 Ld (.int .i64) w6 (a3.add 1) fun x10 =>
 (bif (decide (x10 < 0)) then
 J7 (decide (x10 < 0))
 else
 Ld (.int .i64) w6 (a3.add 1) fun x11 =>
 J7 (decide (x11 ≥ 1048576)))))
 Ld (.int .i64) w2 a3 fun x12 =>
 c_be_Fits x12 1 w2 fun r13 w14 =>
 (bif (!r13) then
 J4 (!r13) w14
 else
 Ld (.int .i64) w14 (a3.add 2) fun x15 =>
 c_be_Fits x15 1 w14 fun r16 w17 =>
 (bif (!r16) then
 J4 (!r16) w17
 else
 Ld (.int .i64) w17 (a3.add 3) fun x18 =>
 c_be_Fits x18 1 w17 fun r19 w20 =>
 J4 (!r19) w20)))
theorem e_v6_Check (a0_0 : Int) (a0_1 : Int) (a0_2 : Int) (a0_3 : Int) (a0_4 : Int) (a0_5 : Int) (a0_6 : Int) (a0_7 : Int) (a0_8 : Int) (a0_9 : Int) (a0_10 : Int) (a0_11 : Int) (a0_12 : Int) (a0_13 : Int) (a0_14 : Int) (a0_15 : Int) (a0_16 : Int) (a0_17 : Int) (a0_18 : Int) (a0_19 : Int) (a0_20 : Int) (a0_21 : Int) (a0_22 : Int) (a0_23 : Int) (a0_24 : Int) (a0_25 : Int) (a0_26 : Int) (a0_27 : Int) (a0_28 : Int) (a0_29 : Int) (a0_30 : Int) (a0_31 : Int) (a0_32 : Int) (a0_33 : Int) (a0_34 : Int) (a0_35 : Int) (a0_36 : SliceV) (w : World) (K : Int → World → Prop) : den Try.prog 28 (bodyOf Try.f33) none (.seq .leaf (.seq (.blk (.seq (.seq .leaf (.cond .leaf (.seq .leaf (.cond .leaf .leaf)))) (.cond (.seq .leaf .leaf) (.seq (.seq .leaf (.cond .leaf .leaf)) (.cond (.seq .leaf .leaf) (.seq .leaf (.cond (.seq .leaf .leaf) .leaf))))))) (.seq .leaf .leaf))) (argEnv 0 [(Value.agg ⟨((Value.int .i64 a0_0) :: (Value.int .i64 a0_1) :: (Value.int .i64 a0_2) :: (Value.int .i64 a0_3) :: (Value.int .u8 a0_4) :: (Value.int .u8 a0_5) :: (Value.int .u8 a0_6) :: (Value.int .u8 a0_7) :: (Value.int .u8 a0_8) :: (Value.int .u8 a0_9) :: (Value.int .u8 a0_10) :: (Value.int .u8 a0_11) :: (Value.int .u8 a0_12) :: (Value.int .u8 a0_13) :: (Value.int .u8 a0_14) :: (Value.int .u8 a0_15) :: (Value.int .u8 a0_16) :: (Value.int .u8 a0_17) :: (Value.int .u8 a0_18) :: (Value.int .u8 a0_19) :: (Value.int .u8 a0_20) :: (Value.int .u8 a0_21) :: (Value.int .u8 a0_22) :: (Value.int .u8 a0_23) :: (Value.int .u8 a0_24) :: (Value.int .u8 a0_25) :: (Value.int .u8 a0_26) :: (Value.int .u8 a0_27) :: (Value.int .u8 a0_28) :: (Value.int .u8 a0_29) :: (Value.int .u8 a0_30) :: (Value.int .u8 a0_31) :: (Value.int .u8 a0_32) :: (Value.int .u8 a0_33) :: (Value.int .u8 a0_34) :: (Value.int .u8 a0_35) :: (Value.slice a0_36.a a0_36.len a0_36.cap) :: [])⟩)]) [] w (retK Try.prog [.tmp 2] [.one (.int .i64)] K) = s_v6_Check a0_0 a0_1 a0_2 a0_3 a0_4 a0_5 a0_6 a0_7 a0_8 a0_9 a0_10 a0_11 a0_12 a0_13 a0_14 a0_15 a0_16 a0_17 a0_18 a0_19 a0_20 a0_21 a0_22 a0_23 a0_24 a0_25 a0_26 a0_27 a0_28 a0_29 a0_30 a0_31 a0_32 a0_33 a0_34 a0_35 a0_36 w K := by kernel_rfl
theorem ok_v6_Check {a0_0 a0_1 a0_2 a0_3 a0_4 a0_5 a0_6 a0_7 a0_8 a0_9 a0_10 a0_11 a0_12 a0_13 a0_14 a0_15 a0_16 a0_17 a0_18 a0_19 a0_20 a0_21 a0_22 a0_23 a0_24 a0_25 a0_26 a0_27 a0_28 a0_29 a0_30 a0_31 a0_32 a0_33 a0_34 a0_35 a0_36 w K} (h : s_v6_Check a0_0 a0_1 a0_2 a0_3 a0_4 a0_5 a0_6 a0_7 a0_8 a0_9 a0_10 a0_11 a0_12 a0_13 a0_14 a0_15 a0_16 a0_17 a0_18 a0_19 a0_20 a0_21 a0_22 a0_23 a0_24 a0_25 a0_26 a0_27 a0_28 a0_29 a0_30 a0_31 a0_32 a0_33 a0_34 a0_35 a0_36 w K) : c_v6_Check a0_0 a0_1 a0_2 a0_3 a0_4 a0_5 a0_6 a0_7 a0_8 a0_9 a0_10 a0_11 a0_12 a0_13 a0_14 a0_15 a0_16 a0_17 a0_18 a0_19 a0_20 a0_21 a0_22 a0_23 a0_24 a0_25 a0_26 a0_27 a0_28 a0_29 a0_30 a0_31 a0_32 a0_33 a0_34 a0_35 a0_36 w K :=
  fn_sound pok Try.func33 (fn := Try.f33) (c := bodyOf Try.f33) (nt := 28) (by kernel_rfl) (by kernel_rfl) (rs := [.tmp 2]) (by kernel_rfl) [.one (.int .i64)] K (.seq .leaf (.seq (.blk (.seq (.seq .leaf (.cond .leaf (.seq .leaf (.cond .leaf .leaf)))) (.cond (.seq .leaf .leaf) (.seq (.seq .leaf (.cond .leaf .leaf)) (.cond (.seq .leaf .leaf) (.seq .leaf (.cond (.seq .leaf .leaf) .leaf))))))) (.seq .leaf .leaf))) [(Value.agg ⟨((Value.int .i64 a0_0) :: (Value.int .i64 a0_1) :: (Value.int .i64 a0_2) :: (Value.int .i64 a0_3) :: (Value.int .u8 a0_4) :: (Value.int .u8 a0_5) :: (Value.int .u8 a0_6) :: (Value.int .u8 a0_7) :: (Value.int .u8 a0_8) :: (Value.int .u8 a0_9) :: (Value.int .u8 a0_10) :: (Value.int .u8 a0_11) :: (Value.int .u8 a0_12) :: (Value.int .u8 a0_13) :: (Value.int .u8 a0_14) :: (Value.int .u8 a0_15) :: (Value.int .u8 a0_16) :: (Value.int .u8 a0_17) :: (Value.int .u8 a0_18) :: (Value.int .u8 a0_19) :: (Value.int .u8 a0_20) :: (Value.int .u8 a0_21) :: (Value.int .u8 a0_22) :: (Value.int .u8 a0_23) :: (Value.int .u8 a0_24) :: (Value.int .u8 a0_25) :: (Value.int .u8 a0_26) :: (Value.int .u8 a0_27) :: (Value.int .u8 a0_28) :: (Value.int .u8 a0_29) :: (Value.int .u8 a0_30) :: (Value.int .u8 a0_31) :: (Value.int .u8 a0_32) :: (Value.int .u8 a0_33) :: (Value.int .u8 a0_34) :: (Value.int .u8 a0_35) :: (Value.slice a0_36.a a0_36.len a0_36.cap) :: [])⟩)] (by kernel_rfl) w ((e_v6_Check a0_0 a0_1 a0_2 a0_3 a0_4 a0_5 a0_6 a0_7 a0_8 a0_9 a0_10 a0_11 a0_12 a0_13 a0_14 a0_15 a0_16 a0_17 a0_18 a0_19 a0_20 a0_21 a0_22 a0_23 a0_24 a0_25 a0_26 a0_27 a0_28 a0_29 a0_30 a0_31 a0_32 a0_33 a0_34 a0_35 a0_36 w K).mpr h)

/-- slices.Concat[[]byte,byte] -/
def s_slices_Concat_byte_byte (a0 : SliceV) (w : World) (K : SliceV → World → Prop) : Prop :=
 (LoopP (S := Int × Int × Unit) (fun s2 w3 next4 =>
 (bif (decide (s2.2.1 < (a0.len : Int))) then
 AtIx a0 1 s2.2.1 fun a5 =>
 Ld .slice w3 a5 fun x6 =>
 (bif (decide ((IntKind.i64.wrap (s2.1 + (x6.len : Int))) < 0)) then
 False
 else
 next4 ((IntKind.i64.wrap (s2.1 + (x6.len : Int))), (IntKind.i64.wrap (s2.2.1 + 1)), ()) w3)
 else
 c_slices_Grow_byte_byte ⟨none, 0, 0⟩ s2.1 w3 fun r7 w8 =>
 LoopP (S := SliceV × Int × Unit) (fun s9 w10 next11 =>
 (bif (decide (s9.2.1 < (a0.len : Int))) then
 AtIx a0 1 s9.2.1 fun a12 =>
 Ld .slice w10 a12 fun x13 =>
 AppSl 5 1 1 [(Value.int .u8 0)] s9.1 x13 w10 fun s14 w15 =>
 next11 (s14, (IntKind.i64.wrap (s9.2.1 + 1)), ()) w15
 else
 K s9.1 w10)) (r7, 0, ()) w8)) (0, 0, ()) w)
theorem e_slices_Concat_byte_byte (a0 : SliceV) (w : World) (K : SliceV → World → Prop) : den Try.prog 36 (bodyOf Try.f35) none (.seq .leaf (.seq .leaf (.seq (.seq .leaf (.blk (.loop [(3, (.int .i64)), (11, (.int .i64))] (.seq .leaf (.seq (.cond .leaf .leaf) (.seq (.blk (.seq .leaf (.seq .leaf (.seq .leaf (.cond .leaf .leaf))))) .leaf)))))) (.seq .leaf (.seq (.seq .leaf (.blk (.loop [(6, .slice), (27, (.int .i64))] (.seq .leaf (.seq (.cond .leaf .leaf) (.seq (.blk (.seq .leaf .leaf)) .leaf)))))) (.seq .leaf .leaf)))))) (argEnv 0 [(Value.slice a0.a a0.len a0.cap)]) [] w (retK Try.prog [.tmp 2] [.one .slice] K) = s_slices_Concat_byte_byte a0 w K := by kernel_rfl
theorem ok_slices_Concat_byte_byte {a0 w K} (h : s_slices_Concat_byte_byte a0 w K) : c_slices_Concat_byte_byte a0 w K :=
  fn_sound pok Try.func35 (fn := Try.f35) (c := bodyOf Try.f35) (nt := 36) (by kernel_rfl) (by kernel_rfl) (rs := [.tmp 2]) (by kernel_rfl) [.one .slice] K (.seq .leaf (.seq .leaf (.seq (.seq .leaf (.blk (.loop [(3, (.int .i64)), (11, (.int .i64))] (.seq .leaf (.seq (.cond .leaf .leaf) (.seq (.blk (.seq .leaf (.seq .leaf (.seq .leaf (.cond .leaf .leaf))))) .leaf)))))) (.seq .leaf (.seq (.seq .leaf (.blk (.loop [(6, .slice), (27, (.int .i64))] (.seq .leaf (.seq (.cond .leaf .leaf) (.seq (.blk (.seq .leaf .leaf)) .leaf)))))) (.seq .leaf .leaf)))))) [(Value.slice a0.a a0.len a0.cap)] (by kernel_rfl) w ((e_slices_Concat_byte_byte a0 w K).mpr h)

/-- goosepond/goosepondref06.Quoted -/
def s_ref06_Quoted (a0 : SliceV) (w : World) (K : Int → Int → Int → Int → Int → Int → Int → Int → Int → Int → Int → Int → Int → Int → Int → Int → Int → Int → Int → Int → Int → Int → Int → Int → Int → Int → Int → Int → Int → Int → Int → Int → Int → Int → Int → Int → SliceV → Int → World → Prop) : Prop :=
 (Al w (.cells ⟨((Value.int .i64 0) :: (Value.int .i64 0) :: (Value.int .i64 0) :: (Value.int .i64 0) :: (Value.int .u8 0) :: (Value.int .u8 0) :: (Value.int .u8 0) :: (Value.int .u8 0) :: (Value.int .u8 0) :: (Value.int .u8 0) :: (Value.int .u8 0) :: (Value.int .u8 0) :: (Value.int .u8 0) :: (Value.int .u8 0) :: (Value.int .u8 0) :: (Value.int .u8 0) :: (Value.int .u8 0) :: (Value.int .u8 0) :: (Value.int .u8 0) :: (Value.int .u8 0) :: (Value.int .u8 0) :: (Value.int .u8 0) :: (Value.int .u8 0) :: (Value.int .u8 0) :: (Value.int .u8 0) :: (Value.int .u8 0) :: (Value.int .u8 0) :: (Value.int .u8 0) :: (Value.int .u8 0) :: (Value.int .u8 0) :: (Value.int .u8 0) :: (Value.int .u8 0) :: (Value.int .u8 0) :: (Value.int .u8 0) :: (Value.int .u8 0) :: (Value.int .u8 0) :: (Value.slice none 0 0) :: [])⟩ 33) fun a3 w2 =>
 c_ref06_read a0 true w2 fun r4 r5 r6 r7 r8 r9 r10 r11 r12 r13 r14 r15 r16 r17 r18 r19 r20 r21 r22 r23 r24 r25 r26 r27 r28 r29 r30 r31 r32 r33 r34 r35 r36 r37 r38 r39 r40 r41 w42 =>
 StN ((Value.int .i64 r4) :: (Value.int .i64 r5) :: (Value.int .i64 r6) :: (Value.int .i64 r7) :: (Value.int .u8 r8) :: (Value.int .u8 r9) :: (Value.int .u8 r10) :: (Value.int .u8 r11) :: (Value.int .u8 r12) :: (Value.int .u8 r13) :: (Value.int .u8 r14) :: (Value.int .u8 r15) :: (Value.int .u8 r16) :: (Value.int .u8 r17) :: (Value.int .u8 r18) :: (Value.int .u8 r19) :: (Value.int .u8 r20) :: (Value.int .u8 r21) :: (Value.int .u8 r22) :: (Value.int .u8 r23) :: (Value.int .u8 r24) :: (Value.int .u8 r25) :: (Value.int .u8 r26) :: (Value.int .u8 r27) :: (Value.int .u8 r28) :: (Value.int .u8 r29) :: (Value.int .u8 r30) :: (Value.int .u8 r31) :: (Value.int .u8 r32) :: (Value.int .u8 r33) :: (Value.int .u8 r34) :: (Value.int .u8 r35) :: (Value.int .u8 r36) :: (Value.int .u8 r37) :: (Value.int .u8 r38) :: (Value.int .u8 r39) :: (Value.slice r40.a r40.len r40.cap) :: []) w42 a3 0 fun w43 =>
 Ld (.int .i64) w43 (a3.add 0) fun y44 =>
 Ld (.int .i64) w43 (a3.add 1) fun y45 =>
 Ld (.int .i64) w43 (a3.add 2) fun y46 =>
 Ld (.int .i64) w43 (a3.add 3) fun y47 =>
 Ld (.int .u8) w43 (a3.add 4) fun y48 =>
 Ld (.int .u8) w43 (a3.add 5) fun y49 =>
 Ld (.int .u8) w43 (a3.add 6) fun y50 =>
 Ld (.int .u8) w43 (a3.add 7) fun y51 =>
 Ld (.int .u8) w43 (a3.add 8) fun y52 =>
 Ld (.int .u8) w43 (a3.add 9) fun y53 =>
 Ld (.int .u8) w43 (a3.add 10) fun y54 =>
 Ld (.int .u8) w43 (a3.add 11) fun y55 =>
 Ld (.int .u8) w43 (a3.add 12) fun y56 =>
 Ld (.int .u8) w43 (a3.add 13) fun y57 =>
 Ld (.int .u8) w43 (a3.add 14) fun y58 =>
 Ld (.int .u8) w43 (a3.add 15) fun y59 =>
 Ld (.int .u8) w43 (a3.add 16) fun y60 =>
 Ld (.int .u8) w43 (a3.add 17) fun y61 =>
 Ld (.int .u8) w43 (a3.add 18) fun y62 =>
 Ld (.int .u8) w43 (a3.add 19) fun y63 =>
 Ld (.int .u8) w43 (a3.add 20) fun y64 =>
 Ld (.int .u8) w43 (a3.add 21) fun y65 =>
 Ld (.int .u8) w43 (a3.add 22) fun y66 =>
 Ld (.int .u8) w43 (a3.add 23) fun y67 =>
 Ld (.int .u8) w43 (a3.add 24) fun y68 =>
 Ld (.int .u8) w43 (a3.add 25) fun y69 =>
 Ld (.int .u8) w43 (a3.add 26) fun y70 =>
 Ld (.int .u8) w43 (a3.add 27) fun y71 =>
 Ld (.int .u8) w43 (a3.add 28) fun y72 =>
 Ld (.int .u8) w43 (a3.add 29) fun y73 =>
 Ld (.int .u8) w43 (a3.add 30) fun y74 =>
 Ld (.int .u8) w43 (a3.add 31) fun y75 =>
 Ld (.int .u8) w43 (a3.add 32) fun y76 =>
 Ld (.int .u8) w43 (a3.add 33) fun y77 =>
 Ld (.int .u8) w43 (a3.add 34) fun y78 =>
 Ld (.int .u8) w43 (a3.add 35) fun y79 =>
 Ld .slice w43 (a3.add 36) fun y80 =>
 K y44 y45 y46 y47 y48 y49 y50 y51 y52 y53 y54 y55 y56 y57 y58 y59 y60 y61 y62 y63 y64 y65 y66 y67 y68 y69 y70 y71 y72 y73 y74 y75 y76 y77 y78 y79 y80 r41 w43)
theorem e_ref06_Quoted (a0 : SliceV) (w : World) (K : Int → Int → Int → Int → Int → Int → Int → Int → Int → Int → Int → Int → Int → Int → Int → Int → Int → Int → Int → Int → Int → Int → Int → Int → Int → Int → Int → Int → Int → Int → Int → Int → Int → Int → Int → Int → SliceV → Int → World → Prop) : den Try.prog 8 (bodyOf Try.f42) none (.seq .leaf (.seq .leaf .leaf)) (argEnv 0 [(Value.slice a0.a a0.len a0.cap)]) [] w (retK Try.prog [.cell 2 33, .tmp 3] [.agg ((.int .i64) :: (.int .i64) :: (.int .i64) :: (.int .i64) :: (.int .u8) :: (.int .u8) :: (.int .u8) :: (.int .u8) :: (.int .u8) :: (.int .u8) :: (.int .u8) :: (.int .u8) :: (.int .u8) :: (.int .u8) :: (.int .u8) :: (.int .u8) :: (.int .u8) :: (.int .u8) :: (.int .u8) :: (.int .u8) :: (.int .u8) :: (.int .u8) :: (.int .u8) :: (.int .u8) :: (.int .u8) :: (.int .u8) :: (.int .u8) :: (.int .u8) :: (.int .u8) :: (.int .u8) :: (.int .u8) :: (.int .u8) :: (.int .u8) :: (.int .u8) :: (.int .u8) :: (.int .u8) :: .slice :: []), .one (.int .i64)] K) = s_ref06_Quoted a0 w K := by kernel_rfl
theorem ok_ref06_Quoted {a0 w K} (h : s_ref06_Quoted a0 w K) : c_ref06_Quoted a0 w K := by
  have t := fn_sound pok Try.func42 (fn := Try.f42) (c := bodyOf Try.f42) (nt := 8) (by kernel_rfl) (by kernel_rfl) (rs := [.cell 2 33, .tmp 3]) (by kernel_rfl) [.agg ((.int .i64) :: (.int .i64) :: (.int .i64) :: (.int .i64) :: (.int .u8) :: (.int .u8) :: (.int .u8) :: (.int .u8) :: (.int .u8) :: (.int .u8) :: (.int .u8) :: (.int .u8) :: (.int .u8) :: (.int .u8) :: (.int .u8) :: (.int .u8) :: (.int .u8) :: (.int .u8) :: (.int .u8) :: (.int .u8) :: (.int .u8) :: (.int .u8) :: (.int .u8) :: (.int .u8) :: (.int .u8) :: (.int .u8) :: (.int .u8) :: (.int .u8) :: (.int .u8) :: (.int .u8) :: (.int .u8) :: (.int .u8) :: (.int .u8) :: (.int .u8) :: (.int .u8) :: (.int .u8) :: .slice :: []), .one (.int .i64)] K (.seq .leaf (.seq .leaf .leaf)) [(Value.slice a0.a a0.len a0.cap)] (by kernel_rfl) w ((e_ref06_Quoted a0 w K).mpr h)
  exact Eq.mp (by kernel_rfl) t

/-- goosepond/goosepondref30.inner -/
def s_ref30_inner (a0_0 : Int) (a0_1 : Int) (a0_2 : Int) (a0_3 : Int) (a0_4 : Int) (a0_5 : Int) (a0_6 : Int) (a0_7 : Int) (a0_8 : Int) (a0_9 : Int) (a0_10 : Int) (a0_11 : Int) (a0_12 : Int) (a0_13 : Int) (a0_14 : Int) (a0_15 : Int) (a0_16 : Int) (a0_17 : Int) (a0_18 : Int) (a0_19 : Int) (a0_20 : Int) (a0_21 : Int) (a0_22 : Int) (a0_23 : Int) (a0_24 : Int) (a0_25 : Int) (a0_26 : Int) (a0_27 : Int) (a0_28 : Int) (a0_29 : Int) (a0_30 : Int) (a0_31 : Int) (a0_32 : Int) (a0_33 : Int) (a0_34 : Int) (a0_35 : Int) (a0_36 : SliceV) (w : World) (K : SliceV → Int → World → Prop) : Prop :=
 (Al w (.cells ⟨((Value.int .i64 a0_0) :: (Value.int .i64 a0_1) :: (Value.int .i64 a0_2) :: (Value.int .i64 a0_3) :: (Value.int .u8 a0_4) :: (Value.int .u8 a0_5) :: (Value.int .u8 a0_6) :: (Value.int .u8 a0_7) :: (Value.int .u8 a0_8) :: (Value.int .u8 a0_9) :: (Value.int .u8 a0_10) :: (Value.int .u8 a0_11) :: (Value.int .u8 a0_12) :: (Value.int .u8 a0_13) :: (Value.int .u8 a0_14) :: (Value.int .u8 a0_15) :: (Value.int .u8 a0_16) :: (Value.int .u8 a0_17) :: (Value.int .u8 a0_18) :: (Value.int .u8 a0_19) :: (Value.int .u8 a0_20) :: (Value.int .u8 a0_21) :: (Value.int .u8 a0_22) :: (Value.int .u8 a0_23) :: (Value.int .u8 a0_24) :: (Value.int .u8 a0_25) :: (Value.int .u8 a0_26) :: (Value.int .u8 a0_27) :: (Value.int .u8 a0_28) :: (Value.int .u8 a0_29) :: (Value.int .u8 a0_30) :: (Value.int .u8 a0_31) :: (Value.int .u8 a0_32) :: (Value.int .u8 a0_33) :: (Value.int .u8 a0_34) :: (Value.int .u8 a0_35) :: (Value.slice a0_36.a a0_36.len a0_36.cap) :: [])⟩ 33) fun a3 w2 =>
 Ld (.int .i64) w2 (a3.add 2) fun x4 =>
 (bif (x4 == 4) then
 Ld .slice w2 (a3.add 36) fun x5 =>
 K x5 0 w2
 else
 Ld (.int .i64) w2 (a3.add 2) fun x6 =>
 (bif (x6 != 44) then
 K ⟨none, 0, 0⟩ 4 w2
 else
 Ld .slice w2 (a3.add 36) fun x7 =>
 c_ref06_ParseFrag x7 w2 fun r8 r9 r10 r11 r12 r13 w14 =>
 Al w14 (.cells ⟨[(Value.int .i64 0), (Value.int .i64 0), (Value.int .i64 0), (Value.bool false)]⟩ 125) fun a16 w15 =>
 StN [(Value.int .i64 r8), (Value.int .i64 r9), (Value.int .i64 r10), (Value.bool r11)] w15 a16 0 fun w17 =>
 (bif (r13 != 0) then
 K ⟨none, 0, 0⟩ r13 w17
 else
 let J18 : Bool → Prop := fun j19 =>
 ((bif j19 then
 K ⟨none, 0, 0⟩ 4 w17
 else
 K r12 0 w17))
 Ld (.int .i64) w17 (a16.add 1) fun x20 =>
 (bif (x20 != 0) then
 J18 true
 else
 Ld (.int .i64) w17 a16 fun x21 =>
 J18 (x21 != 4))))))
theorem e_ref30_inner (a0_0 : Int) (a0_1 : Int) (a0_2 : Int) (a0_3 : Int) (a0_4 : Int) (a0_5 : Int) (a0_6 : Int) (a0_7 : Int) (a0_8 : Int) (a0_9 : Int) (a0_10 : Int) (a0_11 : Int) (a0_12 : Int) (a0_13 : Int) (a0_14 : Int) (a0_15 : Int) (a0_16 : Int) (a0_17 : Int) (a0_18 : Int) (a0_19 : Int) (a0_20 : Int) (a0_21 : Int) (a0_22 : Int) (a0_23 : Int) (a0_24 : Int) (a0_25 : Int) (a0_26 : Int) (a0_27 : Int) (a0_28 : Int) (a0_29 : Int) (a0_30 : Int) (a0_31 : Int) (a0_32 : Int) (a0_33 : Int) (a0_34 : Int) (a0_35 : Int) (a0_36 : SliceV) (w : World) (K : SliceV → Int → World → Prop) : den Try.prog 34 (bodyOf Try.f43) none (.seq .leaf (.seq (.seq .leaf (.cond (.seq .leaf .leaf) .leaf)) (.seq (.seq .leaf (.cond (.seq .leaf .leaf) .leaf)) (.seq .leaf (.seq (.seq .leaf (.cond (.seq .leaf .leaf) .leaf)) (.seq (.seq .leaf (.cond (.seq .leaf .leaf) .leaf)) (.seq .leaf .leaf))))))) (argEnv 0 [(Value.agg ⟨((Value.int .i64 a0_0) :: (Value.int .i64 a0_1) :: (Value.int .i64 a0_2) :: (Value.int .i64 a0_3) :: (Value.int .u8 a0_4) :: (Value.int .u8 a0_5) :: (Value.int .u8 a0_6) :: (Value.int .u8 a0_7) :: (Value.int .u8 a0_8) :: (Value.int .u8 a0_9) :: (Value.int .u8 a0_10) :: (Value.int .u8 a0_11) :: (Value.int .u8 a0_12) :: (Value.int .u8 a0_13) :: (Value.int .u8 a0_14) :: (Value.int .u8 a0_15) :: (Value.int .u8 a0_16) :: (Value.int .u8 a0_17) :: (Value.int .u8 a0_18) :: (Value.int .u8 a0_19) :: (Value.int .u8 a0_20) :: (Value.int .u8 a0_21) :: (Value.int .u8 a0_22) :: (Value.int .u8 a0_23) :: (Value.int .u8 a0_24) :: (Value.int .u8 a0_25) :: (Value.int .u8 a0_26) :: (Value.int .u8 a0_27) :: (Value.int .u8 a0_28) :: (Value.int .u8 a0_29) :: (Value.int .u8 a0_30) :: (Value.int .u8 a0_31) :: (Value.int .u8 a0_32) :: (Value.int .u8 a0_33) :: (Value.int .u8 a0_34) :: (Value.int .u8 a0_35) :: (Value.slice a0_36.a a0_36.len a0_36.cap) :: [])⟩)]) [] w (retK Try.prog [.tmp 2, .tmp 3] [.one .slice, .one (.int .i64)] K) = s_ref30_inner a0_0 a0_1 a0_2 a0_3 a0_4 a0_5 a0_6 a0_7 a0_8 a0_9 a0_10 a0_11 a0_12 a0_13 a0_14 a0_15 a0_16 a0_17 a0_18 a0_19 a0_20 a0_21 a0_22 a0_23 a0_24 a0_25 a0_26 a0_27 a0_28 a0_29 a0_30 a0_31 a0_32 a0_33 a0_34 a0_35 a0_36 w K := by kernel_rfl
theorem ok_ref30_inner {a0_0 a0_1 a0_2 a0_3 a0_4 a0_5 a0_6 a0_7 a0_8 a0_9 a0_10 a0_11 a0_12 a0_13 a0_14 a0_15 a0_16 a0_17 a0_18 a0_19 a0_20 a0_21 a0_22 a0_23 a0_24 a0_25 a0_26 a0_27 a0_28 a0_29 a0_30 a0_31 a0_32 a0_33 a0_34 a0_35 a0_36 w K} (h : s_ref30_inner a0_0 a0_1 a0_2 a0_3 a0_4 a0_5 a0_6 a0_7 a0_8 a0_9 a0_10 a0_11 a0_12 a0_13 a0_14 a0_15 a0_16 a0_17 a0_18 a0_19 a0_20 a0_21 a0_22 a0_23 a0_24 a0_25 a0_26 a0_27 a0_28 a0_29 a0_30 a0_31 a0_32 a0_33 a0_34 a0_35 a0_36 w K) : c_ref30_inner a0_0 a0_1 a0_2 a0_3 a0_4 a0_5 a0_6 a0_7 a0_8 a0_9 a0_10 a0_11 a0_12 a0_13 a0_14 a0_15 a0_16 a0_17 a0_18 a0_19 a0_20 a0_21 a0_22 a0_23 a0_24 a0_25 a0_26 a0_27 a0_28 a0_29 a0_30 a0_31 a0_32 a0_33 a0_34 a0_35 a0_36 w K :=
  fn_sound pok Try.func43 (fn := Try.f43) (c := bodyOf Try.f43) (nt := 34) (by kernel_rfl) (by kernel_rfl) (rs := [.tmp 2, .tmp 3]) (by kernel_rfl) [.one .slice, .one (.int .i64)] K (.seq .leaf (.seq (.seq .leaf (.cond (.seq .leaf .leaf) .leaf)) (.seq (.seq .leaf (.cond (.seq .leaf .leaf) .leaf)) (.seq .leaf (.seq (.seq .leaf (.cond (.seq .leaf .leaf) .leaf)) (.seq (.seq .leaf (.cond (.seq .leaf .leaf) .leaf)) (.seq .leaf .leaf))))))) [(Value.agg ⟨((Value.int .i64 a0_0) :: (Value.int .i64 a0_1) :: (Value.int .i64 a0_2) :: (Value.int .i64 a0_3) :: (Value.int .u8 a0_4) :: (Value.int .u8 a0_5) :: (Value.int .u8 a0_6) :: (Value.int .u8 a0_7) :: (Value.int .u8 a0_8) :: (Value.int .u8 a0_9) :: (Value.int .u8 a0_10) :: (Value.int .u8 a0_11) :: (Value.int .u8 a0_12) :: (Value.int .u8 a0_13) :: (Value.int .u8 a0_14) :: (Value.int .u8 a0_15) :: (Value.int .u8 a0_16) :: (Value.int .u8 a0_17) :: (Value.int .u8 a0_18) :: (Value.int .u8 a0_19) :: (Value.int .u8 a0_20) :: (Value.int .u8 a0_21) :: (Value.int .u8 a0_22) :: (Value.int .u8 a0_23) :: (Value.int .u8 a0_24) :: (Value.int .u8 a0_25) :: (Value.int .u8 a0_26) :: (Value.int .u8 a0_27) :: (Value.int .u8 a0_28) :: (Value.int .u8 a0_29) :: (Value.int .u8 a0_30) :: (Value.int .u8 a0_31) :: (Value.int .u8 a0_32) :: (Value.int .u8 a0_33) :: (Value.int .u8 a0_34) :: (Value.int .u8 a0_35) :: (Value.slice a0_36.a a0_36.len a0_36.cap) :: [])⟩)] (by kernel_rfl) w ((e_ref30_inner a0_0 a0_1 a0_2 a0_3 a0_4 a0_5 a0_6 a0_7 a0_8 a0_9 a0_10 a0_11 a0_12 a0_13 a0_14 a0_15 a0_16 a0_17 a0_18 a0_19 a0_20 a0_21 a0_22 a0_23 a0_24 a0_25 a0_26 a0_27 a0_28 a0_29 a0_30 a0_31 a0_32 a0_33 a0_34 a0_35 a0_36 w K).mpr h)

/-- slices.Grow[[]byte,byte] -/
def s_slices_Grow_byte_byte (a0 : SliceV) (a1 : Int) (w : World) (K : SliceV → World → Prop) : Prop :=
 ((bif (decide (a1 < 0)) then
 False
 else
 let J3 : SliceV → World → Prop := fun j4 w5 =>
 (K j4 w5)
 (bif (decide ((IntKind.i64.wrap (a1 - (IntKind.i64.wrap ((a0.cap : Int) - (a0.len : Int))))) > 0)) then
 SubSl a0 1 0 (a0.cap : Int) fun s6 =>
 AppMk 5 1 1 [(Value.int .u8 0)] s6 (IntKind.i64.wrap (a1 - (IntKind.i64.wrap ((a0.cap : Int) - (a0.len : Int))))) w fun s7 w8 =>
 SubSl s7 1 0 (a0.len : Int) fun s9 =>
 J3 s9 w8
 else
 J3 a0 w)))
theorem e_slices_Grow_byte_byte (a0 : SliceV) (a1 : Int) (w : World) (K : SliceV → World → Prop) : den Try.prog 27 (bodyOf Try.f58) none (.seq .leaf (.seq (.seq .leaf (.cond .leaf .leaf)) (.seq (.seq .leaf (.seq .leaf (.cond .leaf .leaf))) (.seq .leaf .leaf)))) (argEnv 0 [(Value.slice a0.a a0.len a0.cap), (Value.int .i64 a1)]) [] w (retK Try.prog [.tmp 4] [.one .slice] K) = s_slices_Grow_byte_byte a0 a1 w K := by kernel_rfl
theorem ok_slices_Grow_byte_byte {a0 a1 w K} (h : s_slices_Grow_byte_byte a0 a1 w K) : c_slices_Grow_byte_byte a0 a1 w K :=
  fn_sound pok Try.func58 (fn := Try.f58) (c := bodyOf Try.f58) (nt := 27) (by kernel_rfl) (by kernel_rfl) (rs := [.tmp 4]) (by kernel_rfl) [.one .slice] K (.seq .leaf (.seq (.seq .leaf (.cond .leaf .leaf)) (.seq (.seq .leaf (.seq .leaf (.cond .leaf .leaf))) (.seq .leaf .leaf)))) [(Value.slice a0.a a0.len a0.cap), (Value.int .i64 a1)] (by kernel_rfl) w ((e_slices_Grow_byte_byte a0 a1 w K).mpr h)

/-- goosepond/v6.Quoted -/
def s_v6_Quoted (a0 : SliceV) (w : World) (K : Int → Int → Int → Int → Int → Int → Int → Int → Int → Int → Int → Int → Int → Int → Int → Int → Int → Int → Int → Int → Int → Int → Int → Int → Int → Int → Int → Int → Int → Int → Int → Int → Int → Int → Int → Int → SliceV → Int → World → Prop) : Prop :=
 (Al w (.cells ⟨((Value.int .i64 0) :: (Value.int .i64 0) :: (Value.int .i64 0) :: (Value.int .i64 0) :: (Value.int .u8 0) :: (Value.int .u8 0) :: (Value.int .u8 0) :: (Value.int .u8 0) :: (Value.int .u8 0) :: (Value.int .u8 0) :: (Value.int .u8 0) :: (Value.int .u8 0) :: (Value.int .u8 0) :: (Value.int .u8 0) :: (Value.int .u8 0) :: (Value.int .u8 0) :: (Value.int .u8 0) :: (Value.int .u8 0) :: (Value.int .u8 0) :: (Value.int .u8 0) :: (Value.int .u8 0) :: (Value.int .u8 0) :: (Value.int .u8 0) :: (Value.int .u8 0) :: (Value.int .u8 0) :: (Value.int .u8 0) :: (Value.int .u8 0) :: (Value.int .u8 0) :: (Value.int .u8 0) :: (Value.int .u8 0) :: (Value.int .u8 0) :: (Value.int .u8 0) :: (Value.int .u8 0) :: (Value.int .u8 0) :: (Value.int .u8 0) :: (Value.int .u8 0) :: (Value.slice none 0 0) :: [])⟩ 33) fun a3 w2 =>
 c_v6_read a0 true w2 fun r4 r5 r6 r7 r8 r9 r10 r11 r12 r13 r14 r15 r16 r17 r18 r19 r20 r21 r22 r23 r24 r25 r26 r27 r28 r29 r30 r31 r32 r33 r34 r35 r36 r37 r38 r39 r40 r41 w42 =>
 StN ((Value.int .i64 r4) :: (Value.int .i64 r5) :: (Value.int .i64 r6) :: (Value.int .i64 r7) :: (Value.int .u8 r8) :: (Value.int .u8 r9) :: (Value.int .u8 r10) :: (Value.int .u8 r11) :: (Value.int .u8 r12) :: (Value.int .u8 r13) :: (Value.int .u8 r14) :: (Value.int .u8 r15) :: (Value.int .u8 r16) :: (Value.int .u8 r17) :: (Value.int .u8 r18) :: (Value.int .u8 r19) :: (Value.int .u8 r20) :: (Value.int .u8 r21) :: (Value.int .u8 r22) :: (Value.int .u8 r23) :: (Value.int .u8 r24) :: (Value.int .u8 r25) :: (Value.int .u8 r26) :: (Value.int .u8 r27) :: (Value.int .u8 r28) :: (Value.int .u8 r29) :: (Value.int .u8 r30) :: (Value.int .u8 r31) :: (Value.int .u8 r32) :: (Value.int .u8 r33) :: (Value.int .u8 r34) :: (Value.int .u8 r35) :: (Value.int .u8 r36) :: (Value.int .u8 r37) :: (Value.int .u8 r38) :: (Value.int .u8 r39) :: (Value.slice r40.a r40.len r40.cap) :: []) w42 a3 0 fun w43 =>
 Ld (.int .i64) w43 (a3.add 0) fun y44 =>
 Ld (.int .i64) w43 (a3.add 1) fun y45 =>
 Ld (.int .i64) w43 (a3.add 2) fun y46 =>
 Ld (.int .i64) w43 (a3.add 3) fun y47 =>
 Ld (.int .u8) w43 (a3.add 4) fun y48 =>
 Ld (.int .u8) w43 (a3.add 5) fun y49 =>
 Ld (.int .u8) w43 (a3.add 6) fun y50 =>
 Ld (.int .u8) w43 (a3.add 7) fun y51 =>
 Ld (.int .u8) w43 (a3.add 8) fun y52 =>
 Ld (.int .u8) w43 (a3.add 9) fun y53 =>
 Ld (.int .u8) w43 (a3.add 10) fun y54 =>
 Ld (.int .u8) w43 (a3.add 11) fun y55 =>
 Ld (.int .u8) w43 (a3.add 12) fun y56 =>
 Ld (.int .u8) w43 (a3.add 13) fun y57 =>
 Ld (.int .u8) w43 (a3.add 14) fun y58 =>
 Ld (.int .u8) w43 (a3.add 15) fun y59 =>
 Ld (.int .u8) w43 (a3.add 16) fun y60 =>
 Ld (.int .u8) w43 (a3.add 17) fun y61 =>
 Ld (.int .u8) w43 (a3.add 18) fun y62 =>
 Ld (.int .u8) w43 (a3.add 19) fun y63 =>
 Ld (.int .u8) w43 (a3.add 20) fun y64 =>
 Ld (.int .u8) w43 (a3.add 21) fun y65 =>
 Ld (.int .u8) w43 (a3.add 22) fun y66 =>
 Ld (.int .u8) w43 (a3.add 23) fun y67 =>
 Ld (.int .u8) w43 (a3.add 24) fun y68 =>
 Ld (.int .u8) w43 (a3.add 25) fun y69 =>
 Ld (.int .u8) w43 (a3.add 26) fun y70 =>
 Ld (.int .u8) w43 (a3.add 27) fun y71 =>
 Ld (.int .u8) w43 (a3.add 28) fun y72 =>
 Ld (.int .u8) w43 (a3.add 29) fun y73 =>
 Ld (.int .u8) w43 (a3.add 30) fun y74 =>
 Ld (.int .u8) w43 (a3.add 31) fun y75 =>
 Ld (.int .u8) w43 (a3.add 32) fun y76 =>
 Ld (.int .u8) w43 (a3.add 33) fun y77 =>
 Ld (.int .u8) w43 (a3.add 34) fun y78 =>
 Ld (.int .u8) w43 (a3.add 35) fun y79 =>
 Ld .slice w43 (a3.add 36) fun y80 =>
 K y44 y45 y46 y47 y48 y49 y50 y51 y52 y53 y54 y55 y56 y57 y58 y59 y60 y61 y62 y63 y64 y65 y66 y67 y68 y69 y70 y71 y72 y73 y74 y75 y76 y77 y78 y79 y80 r41 w43)
theorem e_v6_Quoted (a0 : SliceV) (w : World) (K : Int → Int → Int → Int → Int → Int → Int → Int → Int → Int → Int → Int → Int → Int → Int → Int → Int → Int → Int → Int → Int → Int → Int → Int → Int → Int → Int → Int → Int → Int → Int → Int → Int → Int → Int → Int → SliceV → Int → World → Prop) : den Try.prog 8 (bodyOf Try.f59) none (.seq .leaf (.seq .leaf .leaf)) (argEnv 0 [(Value.slice a0.a a0.len a0.cap)]) [] w (retK Try.prog [.cell 2 33, .tmp 3] [.agg ((.int .i64) :: (.int .i64) :: (.int .i64) :: (.int .i64) :: (.int .u8) :: (.int .u8) :: (.int .u8) :: (.int .u8) :: (.int .u8) :: (.int .u8) :: (.int .u8) :: (.int .u8) :: (.int .u8) :: (.int .u8) :: (.int .u8) :: (.int .u8) :: (.int .u8) :: (.int .u8) :: (.int .u8) :: (.int .u8) :: (.int .u8) :: (.int .u8) :: (.int .u8) :: (.int .u8) :: (.int .u8) :: (.int .u8) :: (.int .u8) :: (.int .u8) :: (.int .u8) :: (.int .u8) :: (.int .u8) :: (.int .u8) :: (.int .u8) :: (.int .u8) :: (.int .u8) :: (.int .u8) :: .slice :: []), .one (.int .i64)] K) = s_v6_Quoted a0 w K := by kernel_rfl
theorem ok_v6_Quoted {a0 w K} (h : s_v6_Quoted a0 w K) : c_v6_Quoted a0 w K := by
  have t := fn_sound pok Try.func59 (fn := Try.f59) (c := bodyOf Try.f59) (nt := 8) (by kernel_rfl) (by kernel_rfl) (rs := [.cell 2 33, .tmp 3]) (by kernel_rfl) [.agg ((.int .i64) :: (.int .i64) :: (.int .i64) :: (.int .i64) :: (.int .u8) :: (.int .u8) :: (.int .u8) :: (.int .u8) :: (.int .u8) :: (.int .u8) :: (.int .u8) :: (.int .u8) :: (.int .u8) :: (.int .u8) :: (.int .u8) :: (.int .u8) :: (.int .u8) :: (.int .u8) :: (.int .u8) :: (.int .u8) :: (.int .u8) :: (.int .u8) :: (.int .u8) :: (.int .u8) :: (.int .u8) :: (.int .u8) :: (.int .u8) :: (.int .u8) :: (.int .u8) :: (.int .u8) :: (.int .u8) :: (.int .u8) :: (.int .u8) :: (.int .u8) :: (.int .u8) :: (.int .u8) :: .slice :: []), .one (.int .i64)] K (.seq .leaf (.seq .leaf .leaf)) [(Value.slice a0.a a0.len a0.cap)] (by kernel_rfl) w ((e_v6_Quoted a0 w K).mpr h)
  exact Eq.mp (by kernel_rfl) t

/-- goosepond/relay.inner -/
def s_relay_inner (a0_0 : Int) (a0_1 : Int) (a0_2 : Int) (a0_3 : Int) (a0_4 : Int) (a0_5 : Int) (a0_6 : Int) (a0_7 : Int) (a0_8 : Int) (a0_9 : Int) (a0_10 : Int) (a0_11 : Int) (a0_12 : Int) (a0_13 : Int) (a0_14 : Int) (a0_15 : Int) (a0_16 : Int) (a0_17 : Int) (a0_18 : Int) (a0_19 : Int) (a0_20 : Int) (a0_21 : Int) (a0_22 : Int) (a0_23 : Int) (a0_24 : Int) (a0_25 : Int) (a0_26 : Int) (a0_27 : Int) (a0_28 : Int) (a0_29 : Int) (a0_30 : Int) (a0_31 : Int) (a0_32 : Int) (a0_33 : Int) (a0_34 : Int) (a0_35 : Int) (a0_36 : SliceV) (w : World) (K : SliceV → Int → World → Prop) : Prop :=
 (Al w (.cells ⟨((Value.int .i64 a0_0) :: (Value.int .i64 a0_1) :: (Value.int .i64 a0_2) :: (Value.int .i64 a0_3) :: (Value.int .u8 a0_4) :: (Value.int .u8 a0_5) :: (Value.int .u8 a0_6) :: (Value.int .u8 a0_7) :: (Value.int .u8 a0_8) :: (Value.int .u8 a0_9) :: (Value.int .u8 a0_10) :: (Value.int .u8 a0_11) :: (Value.int .u8 a0_12) :: (Value.int .u8 a0_13) :: (Value.int .u8 a0_14) :: (Value.int .u8 a0_15) :: (Value.int .u8 a0_16) :: (Value.int .u8 a0_17) :: (Value.int .u8 a0_18) :: (Value.int .u8 a0_19) :: (Value.int .u8 a0_20) :: (Value.int .u8 a0_21) :: (Value.int .u8 a0_22) :: (Value.int .u8 a0_23) :: (Value.int .u8 a0_24) :: (Value.int .u8 a0_25) :: (Value.int .u8 a0_26) :: (Value.int .u8 a0_27) :: (Value.int .u8 a0_28) :: (Value.int .u8 a0_29) :: (Value.int .u8 a0_30) :: (Value.int .u8 a0_31) :: (Value.int .u8 a0_32) :: (Value.int .u8 a0_33) :: (Value.int .u8 a0_34) :: (Value.int .u8 a0_35) :: (Value.slice a0_36.a a0_36.len a0_36.cap) :: [])⟩ 33) fun a3 w2 =>
 let J4 : World → Prop := fun w5 =>
 (K ⟨none, 0, 0⟩ 4 w5)
 Ld (.int .i64) w2 (a3.add 2) fun x6 =>
 (bif (x6 == 4) then
 Ld .slice w2 (a3.add 36) fun x7 =>
 K x7 0 w2
 else
 (bif (x6 == 44) then
 Ld .slice w2 (a3.add 36) fun x8 =>
 c_v6_ParseFrag x8 w2 fun r9 r10 r11 r12 r13 r14 w15 =>
 Al w15 (.cells ⟨[(Value.int .i64 0), (Value.int .i64 0), (Value.int .i64 0), (Value.bool false)]⟩ 125) fun a17 w16 =>
 StN [(Value.int .i64 r9), (Value.int .i64 r10), (Value.int .i64 r11), (Value.bool r12)] w16 a17 0 fun w18 =>
 (bif (r14 != 0) then
 K ⟨none, 0, 0⟩ r14 w18
 else
 let J19 : Bool → Prop := fun j20 =>
 ((bif j20 then
 K r13 0 w18
 else
 J4 w18))
 Ld (.int .i64) w18 (a17.add 1) fun x21 =>
 (bif (x21 == 0) then
 Ld (.int .i64) w18 a17 fun x22 =>
 J19 (x22 == 4)
 else
 J19 false))
 else
 J4 w2)))
theorem e_relay_inner (a0_0 : Int) (a0_1 : Int) (a0_2 : Int) (a0_3 : Int) (a0_4 : Int) (a0_5 : Int) (a0_6 : Int) (a0_7 : Int) (a0_8 : Int) (a0_9 : Int) (a0_10 : Int) (a0_11 : Int) (a0_12 : Int) (a0_13 : Int) (a0_14 : Int) (a0_15 : Int) (a0_16 : Int) (a0_17 : Int) (a0_18 : Int) (a0_19 : Int) (a0_20 : Int) (a0_21 : Int) (a0_22 : Int) (a0_23 : Int) (a0_24 : Int) (a0_25 : Int) (a0_26 : Int) (a0_27 : Int) (a0_28 : Int) (a0_29 : Int) (a0_30 : Int) (a0_31 : Int) (a0_32 : Int) (a0_33 : Int) (a0_34 : Int) (a0_35 : Int) (a0_36 : SliceV) (w : World) (K : SliceV → Int → World → Prop) : den Try.prog 34 (bodyOf Try.f60) none (.seq .leaf (.seq (.seq .leaf (.blk (.seq .leaf (.cond (.seq .leaf .leaf) (.seq .leaf (.cond (.seq .leaf (.seq (.seq .leaf (.cond (.seq .leaf .leaf) .leaf)) (.seq .leaf (.cond (.seq .leaf .leaf) .leaf)))) .leaf)))))) (.seq .leaf .leaf))) (argEnv 0 [(Value.agg ⟨((Value.int .i64 a0_0) :: (Value.int .i64 a0_1) :: (Value.int .i64 a0_2) :: (Value.int .i64 a0_3) :: (Value.int .u8 a0_4) :: (Value.int .u8 a0_5) :: (Value.int .u8 a0_6) :: (Value.int .u8 a0_7) :: (Value.int .u8 a0_8) :: (Value.int .u8 a0_9) :: (Value.int .u8 a0_10) :: (Value.int .u8 a0_11) :: (Value.int .u8 a0_12) :: (Value.int .u8 a0_13) :: (Value.int .u8 a0_14) :: (Value.int .u8 a0_15) :: (Value.int .u8 a0_16) :: (Value.int .u8 a0_17) :: (Value.int .u8 a0_18) :: (Value.int .u8 a0_19) :: (Value.int .u8 a0_20) :: (Value.int .u8 a0_21) :: (Value.int .u8 a0_22) :: (Value.int .u8 a0_23) :: (Value.int .u8 a0_24) :: (Value.int .u8 a0_25) :: (Value.int .u8 a0_26) :: (Value.int .u8 a0_27) :: (Value.int .u8 a0_28) :: (Value.int .u8 a0_29) :: (Value.int .u8 a0_30) :: (Value.int .u8 a0_31) :: (Value.int .u8 a0_32) :: (Value.int .u8 a0_33) :: (Value.int .u8 a0_34) :: (Value.int .u8 a0_35) :: (Value.slice a0_36.a a0_36.len a0_36.cap) :: [])⟩)]) [] w (retK Try.prog [.tmp 2, .tmp 3] [.one .slice, .one (.int .i64)] K) = s_relay_inner a0_0 a0_1 a0_2 a0_3 a0_4 a0_5 a0_6 a0_7 a0_8 a0_9 a0_10 a0_11 a0_12 a0_13 a0_14 a0_15 a0_16 a0_17 a0_18 a0_19 a0_20 a0_21 a0_22 a0_23 a0_24 a0_25 a0_26 a0_27 a0_28 a0_29 a0_30 a0_31 a0_32 a0_33 a0_34 a0_35 a0_36 w K := by kernel_rfl
theorem ok_relay_inner {a0_0 a0_1 a0_2 a0_3 a0_4 a0_5 a0_6 a0_7 a0_8 a0_9 a0_10 a0_11 a0_12 a0_13 a0_14 a0_15 a0_16 a0_17 a0_18 a0_19 a0_20 a0_21 a0_22 a0_23 a0_24 a0_25 a0_26 a0_27 a0_28 a0_29 a0_30 a0_31 a0_32 a0_33 a0_34 a0_35 a0_36 w K} (h : s_relay_inner a0_0 a0_1 a0_2 a0_3 a0_4 a0_5 a0_6 a0_7 a0_8 a0_9 a0_10 a0_11 a0_12 a0_13 a0_14 a0_15 a0_16 a0_17 a0_18 a0_19 a0_20 a0_21 a0_22 a0_23 a0_24 a0_25 a0_26 a0_27 a0_28 a0_29 a0_30 a0_31 a0_32 a0_33 a0_34 a0_35 a0_36 w K) : c_relay_inner a0_0 a0_1 a0_2 a0_3 a0_4 a0_5 a0_6 a0_7 a0_8 a0_9 a0_10 a0_11 a0_12 a0_13 a0_14 a0_15 a0_16 a0_17 a0_18 a0_19 a0_20 a0_21 a0_22 a0_23 a0_24 a0_25 a0_26 a0_27 a0_28 a0_29 a0_30 a0_31 a0_32 a0_33 a0_34 a0_35 a0_36 w K :=
  fn_sound pok Try.func60 (fn := Try.f60) (c := bodyOf Try.f60) (nt := 34) (by kernel_rfl) (by kernel_rfl) (rs := [.tmp 2, .tmp 3]) (by kernel_rfl) [.one .slice, .one (.int .i64)] K (.seq .leaf (.seq (.seq .leaf (.blk (.seq .leaf (.cond (.seq .leaf .leaf) (.seq .leaf (.cond (.seq .leaf (.seq (.seq .leaf (.cond (.seq .leaf .leaf) .leaf)) (.seq .leaf (.cond (.seq .leaf .leaf) .leaf)))) .leaf)))))) (.seq .leaf .leaf))) [(Value.agg ⟨((Value.int .i64 a0_0) :: (Value.int .i64 a0_1) :: (Value.int .i64 a0_2) :: (Value.int .i64 a0_3) :: (Value.int .u8 a0_4) :: (Value.int .u8 a0_5) :: (Value.int .u8 a0_6) :: (Value.int .u8 a0_7) :: (Value.int .u8 a0_8) :: (Value.int .u8 a0_9) :: (Value.int .u8 a0_10) :: (Value.int .u8 a0_11) :: (Value.int .u8 a0_12) :: (Value.int .u8 a0_13) :: (Value.int .u8 a0_14) :: (Value.int .u8 a0_15) :: (Value.int .u8 a0_16) :: (Value.int .u8 a0_17) :: (Value.int .u8 a0_18) :: (Value.int .u8 a0_19) :: (Value.int .u8 a0_20) :: (Value.int .u8 a0_21) :: (Value.int .u8 a0_22) :: (Value.int .u8 a0_23) :: (Value.int .u8 a0_24) :: (Value.int .u8 a0_25) :: (Value.int .u8 a0_26) :: (Value.int .u8 a0_27) :: (Value.int .u8 a0_28) :: (Value.int .u8 a0_29) :: (Value.int .u8 a0_30) :: (Value.int .u8 a0_31) :: (Value.int .u8 a0_32) :: (Value.int .u8 a0_33) :: (Value.int .u8 a0_34) :: (Value.int .u8 a0_35) :: (Value.slice a0_36.a a0_36.len a0_36.cap) :: [])⟩)] (by kernel_rfl) w ((e_relay_inner a0_0 a0_1 a0_2 a0_3 a0_4 a0_5 a0_6 a0_7 a0_8 a0_9 a0_10 a0_11 a0_12 a0_13 a0_14 a0_15 a0_16 a0_17 a0_18 a0_19 a0_20 a0_21 a0_22 a0_23 a0_24 a0_25 a0_26 a0_27 a0_28 a0_29 a0_30 a0_31 a0_32 a0_33 a0_34 a0_35 a0_36 w K).mpr h)

/-- goosepond/goosepondref06.read -/
def s_ref06_read (a0 : SliceV) (a1 : Bool) (w : World) (K : Int → Int → Int → Int → Int → Int → Int → Int → Int → Int → Int → Int → Int → Int → Int → Int → Int → Int → Int → Int → Int → Int → Int → Int → Int → Int → Int → Int → Int → Int → Int → Int → Int → Int → Int → Int → SliceV → Int → World → Prop) : Prop :=
 (Al w (.cells ⟨((Value.int .i64 0) :: (Value.int .i64 0) :: (Value.int .i64 0) :: (Value.int .i64 0) :: (Value.int .u8 0) :: (Value.int .u8 0) :: (Value.int .u8 0) :: (Value.int .u8 0) :: (Value.int .u8 0) :: (Value.int .u8 0) :: (Value.int .u8 0) :: (Value.int .u8 0) :: (Value.int .u8 0) :: (Value.int .u8 0) :: (Value.int .u8 0) :: (Value.int .u8 0) :: (Value.int .u8 0) :: (Value.int .u8 0) :: (Value.int .u8 0) :: (Value.int .u8 0) :: (Value.int .u8 0) :: (Value.int .u8 0) :: (Value.int .u8 0) :: (Value.int .u8 0) :: (Value.int .u8 0) :: (Value.int .u8 0) :: (Value.int .u8 0) :: (Value.int .u8 0) :: (Value.int .u8 0) :: (Value.int .u8 0) :: (Value.int .u8 0) :: (Value.int .u8 0) :: (Value.int .u8 0) :: (Value.int .u8 0) :: (Value.int .u8 0) :: (Value.int .u8 0) :: (Value.slice none 0 0) :: [])⟩ 33) fun a4 w3 =>
 (bif (decide ((a0.len : Int) < 40)) then
 StN ((Value.int .i64 0) :: (Value.int .i64 0) :: (Value.int .i64 0) :: (Value.int .i64 0) :: (Value.int .u8 0) :: (Value.int .u8 0) :: (Value.int .u8 0) :: (Value.int .u8 0) :: (Value.int .u8 0) :: (Value.int .u8 0) :: (Value.int .u8 0) :: (Value.int .u8 0) :: (Value.int .u8 0) :: (Value.int .u8 0) :: (Value.int .u8 0) :: (Value.int .u8 0) :: (Value.int .u8 0) :: (Value.int .u8 0) :: (Value.int .u8 0) :: (Value.int .u8 0) :: (Value.int .u8 0) :: (Value.int .u8 0) :: (Value.int .u8 0) :: (Value.int .u8 0) :: (Value.int .u8 0) :: (Value.int .u8 0) :: (Value.int .u8 0) :: (Value.int .u8 0) :: (Value.int .u8 0) :: (Value.int .u8 0) :: (Value.int .u8 0) :: (Value.int .u8 0) :: (Value.int .u8 0) :: (Value.int .u8 0) :: (Value.int .u8 0) :: (Value.int .u8 0) :: (Value.slice none 0 0) :: []) w3 a4 0 fun w5 =>
 Ld (.int .i64) w5 (a4.add 0) fun y6 =>
 Ld (.int .i64) w5 (a4.add 1) fun y7 =>
 Ld (.int .i64) w5 (a4.add 2) fun y8 =>
 Ld (.int .i64) w5 (a4.add 3) fun y9 =>
 Ld (.int .u8) w5 (a4.add 4) fun y10 =>
 Ld (.int .u8) w5 (a4.add 5) fun y11 =>
 Ld (.int .u8) w5 (a4.add 6) fun y12 =>
 Ld (.int .u8) w5 (a4.add 7) fun y13 =>
 Ld (.int .u8) w5 (a4.add 8) fun y14 =>
 Ld (.int .u8) w5 (a4.add 9) fun y15 =>
 Ld (.int .u8) w5 (a4.add 10) fun y16 =>
 Ld (.int .u8) w5 (a4.add 11) fun y17 =>
 Ld (.int .u8) w5 (a4.add 12) fun y18 =>
 Ld (.int .u8) w5 (a4.add 13) fun y19 =>
 Ld (.int .u8) w5 (a4.add 14) fun y20 =>
 Ld (.int .u8) w5 (a4.add 15) fun y21 =>
 Ld (.int .u8) w5 (a4.add 16) fun y22 =>
 Ld (.int .u8) w5 (a4.add 17) fun y23 =>
 Ld (.int .u8) w5 (a4.add 18) fun y24 =>
 Ld (.int .u8) w5 (a4.add 19) fun y25 =>
 Ld (.int .u8) w5 (a4.add 20) fun y26 =>
 Ld (.int .u8) w5 (a4.add 21) fun y27 =>
 Ld (.int .u8) w5 (a4.add 22) fun y28 =>
 Ld (.int .u8) w5 (a4.add 23) fun y29 =>
 Ld (.int .u8) w5 (a4.add 24) fun y30 =>
 Ld (.int .u8) w5 (a4.add 25) fun y31 =>
 Ld (.int .u8) w5 (a4.add 26) fun y32 =>
 Ld (.int .u8) w5 (a4.add 27) fun y33 =>
 Ld (.int .u8) w5 (a4.add 28) fun y34 =>
 Ld (.int .u8) w5 (a4.add 29) fun y35 =>
 Ld (.int .u8) w5 (a4.add 30) fun y36 =>
 Ld (.int .u8) w5 (a4.add 31) fun y37 =>
 Ld (.int .u8) w5 (a4.add 32) fun y38 =>
 Ld (.int .u8) w5 (a4.add 33) fun y39 =>
 Ld (.int .u8) w5 (a4.add 34) fun y40 =>
 Ld (.int .u8) w5 (a4.add 35) fun y41 =>
 Ld .slice w5 (a4.add 36) fun y42 =>
 K y6 y7 y8 y9 y10 y11 y12 y13 y14 y15 y16 y17 y18 y19 y20 y21 y22 y23 y24 y25 y26 y27 y28 y29 y30 y31 y32 y33 y34 y35 y36 y37 y38 y39 y40 y41 y42 3 w5
 else
 AtIx a0 1 4 fun a43 =>
 Ld (.int .u8) w3.drew a43 fun x44 =>
 AtIx a0 1 5 fun a45 =>
 Ld (.int .u8) w3.drew a45 fun x46 =>
 AtIx a0 1 0 fun a47 =>
 Ld (.int .u8) w3.drew a47 fun x48 =>
 (16 : Int) ≠ 0 ∧
 (bif ((IntKind.u8.wrap (Int.tdiv x48 16)) != 6) then
 StN ((Value.int .i64 0) :: (Value.int .i64 0) :: (Value.int .i64 0) :: (Value.int .i64 0) :: (Value.int .u8 0) :: (Value.int .u8 0) :: (Value.int .u8 0) :: (Value.int .u8 0) :: (Value.int .u8 0) :: (Value.int .u8 0) :: (Value.int .u8 0) :: (Value.int .u8 0) :: (Value.int .u8 0) :: (Value.int .u8 0) :: (Value.int .u8 0) :: (Value.int .u8 0) :: (Value.int .u8 0) :: (Value.int .u8 0) :: (Value.int .u8 0) :: (Value.int .u8 0) :: (Value.int .u8 0) :: (Value.int .u8 0) :: (Value.int .u8 0) :: (Value.int .u8 0) :: (Value.int .u8 0) :: (Value.int .u8 0) :: (Value.int .u8 0) :: (Value.int .u8 0) :: (Value.int .u8 0) :: (Value.int .u8 0) :: (Value.int .u8 0) :: (Value.int .u8 0) :: (Value.int .u8 0) :: (Value.int .u8 0) :: (Value.int .u8 0) :: (Value.int .u8 0) :: (Value.slice none 0 0) :: []) w3.drew a4 0 fun w49 =>
 Ld (.int .i64) w49 (a4.add 0) fun y50 =>
 Ld (.int .i64) w49 (a4.add 1) fun y51 =>
 Ld (.int .i64) w49 (a4.add 2) fun y52 =>
 Ld (.int .i64) w49 (a4.add 3) fun y53 =>
 Ld (.int .u8) w49 (a4.add 4) fun y54 =>
 Ld (.int .u8) w49 (a4.add 5) fun y55 =>
 Ld (.int .u8) w49 (a4.add 6) fun y56 =>
 Ld (.int .u8) w49 (a4.add 7) fun y57 =>
 Ld (.int .u8) w49 (a4.add 8) fun y58 =>
 Ld (.int .u8) w49 (a4.add 9) fun y59 =>
 Ld (.int .u8) w49 (a4.add 10) fun y60 =>
 Ld (.int .u8) w49 (a4.add 11) fun y61 =>
 Ld (.int .u8) w49 (a4.add 12) fun y62 =>
 Ld (.int .u8) w49 (a4.add 13) fun y63 =>
 Ld (.int .u8) w49 (a4.add 14) fun y64 =>
 Ld (.int .u8) w49 (a4.add 15) fun y65 =>
 Ld (.int .u8) w49 (a4.add 16) fun y66 =>
 Ld (.int .u8) w49 (a4.add 17) fun y67 =>
 Ld (.int .u8) w49 (a4.add 18) fun y68 =>
 Ld (.int .u8) w49 (a4.add 19) fun y69 =>
 Ld (.int .u8) w49 (a4.add 20) fun y70 =>
 Ld (.int .u8) w49 (a4.add 21) fun y71 =>
 Ld (.int .u8) w49 (a4.add 22) fun y72 =>
 Ld (.int .u8) w49 (a4.add 23) fun y73 =>
 Ld (.int .u8) w49 (a4.add 24) fun y74 =>
 Ld (.int .u8) w49 (a4.add 25) fun y75 =>
 Ld (.int .u8) w49 (a4.add 26) fun y76 =>
 Ld (.int .u8) w49 (a4.add 27) fun y77 =>
 Ld (.int .u8) w49 (a4.add 28) fun y78 =>
 Ld (.int .u8) w49 (a4.add 29) fun y79 =>
 Ld (.int .u8) w49 (a4.add 30) fun y80 =>
 Ld (.int .u8) w49 (a4.add 31) fun y81 =>
 Ld (.int .u8) w49 (a4.add 32) fun y82 =>
 Ld (.int .u8) w49 (a4.add 33) fun y83 =>
 Ld (.int .u8) w49 (a4.add 34) fun y84 =>
 Ld (.int .u8) w49 (a4.add 35) fun y85 =>
 Ld .slice w49 (a4.add 36) fun y86 =>
 K y50 y51 y52 y53 y54 y55 y56 y57 y58 y59 y60 y61 y62 y63 y64 y65 y66 y67 y68 y69 y70 y71 y72 y73 y74 y75 y76 y77 y78 y79 y80 y81 y82 y83 y84 y85 y86 4 w49
 else
 let J87 : Bool → Prop := fun j88 =>
 ((bif j88 then
 StN ((Value.int .i64 0) :: (Value.int .i64 0) :: (Value.int .i64 0) :: (Value.int .i64 0) :: (Value.int .u8 0) :: (Value.int .u8 0) :: (Value.int .u8 0) :: (Value.int .u8 0) :: (Value.int .u8 0) :: (Value.int .u8 0) :: (Value.int .u8 0) :: (Value.int .u8 0) :: (Value.int .u8 0) :: (Value.int .u8 0) :: (Value.int .u8 0) :: (Value.int .u8 0) :: (Value.int .u8 0) :: (Value.int .u8 0) :: (Value.int .u8 0) :: (Value.int .u8 0) :: (Value.int .u8 0) :: (Value.int .u8 0) :: (Value.int .u8 0) :: (Value.int .u8 0) :: (Value.int .u8 0) :: (Value.int .u8 0) :: (Value.int .u8 0) :: (Value.int .u8 0) :: (Value.int .u8 0) :: (Value.int .u8 0) :: (Value.int .u8 0) :: (Value.int .u8 0) :: (Value.int .u8 0) :: (Value.int .u8 0) :: (Value.int .u8 0) :: (Value.int .u8 0) :: (Value.slice none 0 0) :: []) w3.drew a4 0 fun w89 =>
 Ld (.int .i64) w89 (a4.add 0) fun y90 =>
 Ld (.int .i64) w89 (a4.add 1) fun y91 =>
 Ld (.int .i64) w89 (a4.add 2) fun y92 =>
 Ld (.int .i64) w89 (a4.add 3) fun y93 =>
 Ld (.int .u8) w89 (a4.add 4) fun y94 =>
 Ld (.int .u8) w89 (a4.add 5) fun y95 =>
 Ld (.int .u8) w89 (a4.add 6) fun y96 =>
 Ld (.int .u8) w89 (a4.add 7) fun y97 =>
 Ld (.int .u8) w89 (a4.add 8) fun y98 =>
 Ld (.int .u8) w89 (a4.add 9) fun y99 =>
 Ld (.int .u8) w89 (a4.add 10) fun y100 =>
 Ld (.int .u8) w89 (a4.add 11) fun y101 =>
 Ld (.int .u8) w89 (a4.add 12) fun y102 =>
 Ld (.int .u8) w89 (a4.add 13) fun y103 =>
 Ld (.int .u8) w89 (a4.add 14) fun y104 =>
 Ld (.int .u8) w89 (a4.add 15) fun y105 =>
 Ld (.int .u8) w89 (a4.add 16) fun y106 =>
 Ld (.int .u8) w89 (a4.add 17) fun y107 =>
 Ld (.int .u8) w89 (a4.add 18) fun y108 =>
 Ld (.int .u8) w89 (a4.add 19) fun y109 =>
 Ld (.int .u8) w89 (a4.add 20) fun y110 =>
 Ld (.int .u8) w89 (a4.add 21) fun y111 =>
 Ld (.int .u8) w89 (a4.add 22) fun y112 =>
 Ld (.int .u8) w89 (a4.add 23) fun y113 =>
 Ld (.int .u8) w89 (a4.add 24) fun y114 =>
 Ld (.int .u8) w89 (a4.add 25) fun y115 =>
 Ld (.int .u8) w89 (a4.add 26) fun y116 =>
 Ld (.int .u8) w89 (a4.add 27) fun y117 =>
 Ld (.int .u8) w89 (a4.add 28) fun y118 =>
 Ld (.int .u8) w89 (a4.add 29) fun y119 =>
 Ld (.int .u8) w89 (a4.add 30) fun y120 =>
 Ld (.int .u8) w89 (a4.add 31) fun y121 =>
 Ld (.int .u8) w89 (a4.add 32) fun y122 =>
 Ld (.int .u8) w89 (a4.add 33) fun y123 =>
 Ld (.int .u8) w89 (a4.add 34) fun y124 =>
 Ld (.int .u8) w89 (a4.add 35) fun y125 =>
 Ld .slice w89 (a4.add 36) fun y126 =>
 K y90 y91 y92 y93 y94 y95 y96 y97 y98 y99 y100 y101 y102 y103 y104 y105 y106 y107 y108 y109 y110 y111 y112 y113 y114 y115 y116 y117 y118 y119 y120 y121 y122 y123 y124 y125 y126 3 w89
 else
 AtIx a0 1 6 fun a127 =>
 Ld (.int .u8) w3.drew.drew a127 fun x128 =>
 AtIx a0 1 7 fun a129 =>
 Ld (.int .u8) w3.drew.drew a129 fun x130 =>
 Al w3.drew.drew (.cells ⟨((Value.int .i64 0) :: (Value.int .i64 0) :: (Value.int .i64 0) :: (Value.int .i64 0) :: (Value.int .u8 0) :: (Value.int .u8 0) :: (Value.int .u8 0) :: (Value.int .u8 0) :: (Value.int .u8 0) :: (Value.int .u8 0) :: (Value.int .u8 0) :: (Value.int .u8 0) :: (Value.int .u8 0) :: (Value.int .u8 0) :: (Value.int .u8 0) :: (Value.int .u8 0) :: (Value.int .u8 0) :: (Value.int .u8 0) :: (Value.int .u8 0) :: (Value.int .u8 0) :: (Value.int .u8 0) :: (Value.int .u8 0) :: (Value.int .u8 0) :: (Value.int .u8 0) :: (Value.int .u8 0) :: (Value.int .u8 0) :: (Value.int .u8 0) :: (Value.int .u8 0) :: (Value.int .u8 0) :: (Value.int .u8 0) :: (Value.int .u8 0) :: (Value.int .u8 0) :: (Value.int .u8 0) :: (Value.int .u8 0) :: (Value.int .u8 0) :: (Value.int .u8 0) :: (Value.slice none 0 0) :: [])⟩ 33) fun a132 w131 =>
 w131.cell? a129 = some (Value.int .u8 x130) ∧
 w131.cell? a127 = some (Value.int .u8 x128) ∧
 StN ((Value.int .i64 0) :: (Value.int .i64 0) :: (Value.int .i64 (IntKind.i64.wrap x128)) :: (Value.int .i64 (IntKind.i64.wrap x130)) :: (Value.int .u8 0) :: (Value.int .u8 0) :: (Value.int .u8 0) :: (Value.int .u8 0) :: (Value.int .u8 0) :: (Value.int .u8 0) :: (Value.int .u8 0) :: (Value.int .u8 0) :: (Value.int .u8 0) :: (Value.int .u8 0) :: (Value.int .u8 0) :: (Value.int .u8 0) :: (Value.int .u8 0) :: (Value.int .u8 0) :: (Value.int .u8 0) :: (Value.int .u8 0) :: (Value.int .u8 0) :: (Value.int .u8 0) :: (Value.int .u8 0) :: (Value.int .u8 0) :: (Value.int .u8 0) :: (Value.int .u8 0) :: (Value.int .u8 0) :: (Value.int .u8 0) :: (Value.int .u8 0) :: (Value.int .u8 0) :: (Value.int .u8 0) :: (Value.int .u8 0) :: (Value.int .u8 0) :: (Value.int .u8 0) :: (Value.int .u8 0) :: (Value.int .u8 0) :: (Value.slice none 0 0) :: []) w131 a132 0 fun w133 =>
 AtIx a0 1 0 fun a134 =>
 Ld (.int .u8) w133.drew a134 fun x135 =>
 (16 : Int) ≠ 0 ∧
 AtIx a0 1 1 fun a136 =>
 Ld (.int .u8) w133.drew a136 fun x137 =>
 (16 : Int) ≠ 0 ∧
 St w133.drew a132 (Value.int .i64 (IntKind.i64.wrap ((IntKind.i64.wrap ((IntKind.i64.wrap (Int.tmod x135 16)) * 16)) + (IntKind.i64.wrap (IntKind.u8.wrap (Int.tdiv x137 16)))))) fun w138 =>
 AtIx a0 1 1 fun a139 =>
 Ld (.int .u8) w138.drew a139 fun x140 =>
 (16 : Int) ≠ 0 ∧
 AtIx a0 1 2 fun a141 =>
 Ld (.int .u8) w138.drew a141 fun x142 =>
 AtIx a0 1 3 fun a143 =>
 Ld (.int .u8) w138.drew a143 fun x144 =>
 St w138.drew (a132.add 1) (Value.int .i64 (IntKind.i64.wrap ((IntKind.i64.wrap ((IntKind.i64.wrap ((IntKind.i64.wrap (Int.tmod x140 16)) * 65536)) + (IntKind.i64.wrap ((IntKind.i64.wrap x142) * 256)))) + (IntKind.i64.wrap x144)))) fun w145 =>
 LoopP (S := Int × Unit) (fun s146 w147 next148 =>
 (bif (decide (s146.1 < 16)) then
 AtIx a0 1 (IntKind.i64.wrap (8 + s146.1)) fun a149 =>
 Ld (.int .u8) w147.drew a149 fun x150 =>
 AtIx a0 1 (IntKind.i64.wrap (24 + s146.1)) fun a151 =>
 Ld (.int .u8) w147.drew a151 fun x152 =>
 (0 : Int) ≤ s146.1 ∧ s146.1 < (16 : Int) ∧
 St w147.drew ((a132.add 4).add (Int.toNat s146.1 * 1)) (Value.int .u8 x150) fun w153 =>
 w153.cell? a151 = some (Value.int .u8 x152) ∧
 (0 : Int) ≤ s146.1 ∧ s146.1 < (16 : Int) ∧
 St w153 ((a132.add 20).add (Int.toNat s146.1 * 1)) (Value.int .u8 x152) fun w154 =>
 next148 ((IntKind.i64.wrap (s146.1 + 1)), ()) w154
 else
 SubSl a0 1 40 (IntKind.i64.wrap (40 + (if (IntKind.i64.wrap ((a0.len : Int) - 40)) < (IntKind.i64.wrap ((IntKind.i64.wrap ((IntKind.i64.wrap x44) * 256)) + (IntKind.i64.wrap x46))) then (IntKind.i64.wrap ((a0.len : Int) - 40)) else (IntKind.i64.wrap ((IntKind.i64.wrap ((IntKind.i64.wrap x44) * 256)) + (IntKind.i64.wrap x46)))))) fun s155 =>
 AppSl 5 1 1 [(Value.int .u8 0)] ⟨none, 0, 0⟩ s155 w147 fun s156 w157 =>
 St w157 (a132.add 36) (Value.slice s156.a s156.len s156.cap) fun w158 =>
 Ld (.int .i64) w158 (a132.add 0) fun x159 =>
 Ld (.int .i64) w158 (a132.add 1) fun x160 =>
 Ld (.int .i64) w158 (a132.add 2) fun x161 =>
 Ld (.int .i64) w158 (a132.add 3) fun x162 =>
 Ld (.int .u8) w158 (a132.add 4) fun x163 =>
 Ld (.int .u8) w158 (a132.add 5) fun x164 =>
 Ld (.int .u8) w158 (a132.add 6) fun x165 =>
 Ld (.int .u8) w158 (a132.add 7) fun x166 =>
 Ld (.int .u8) w158 (a132.add 8) fun x167 =>
 Ld (.int .u8) w158 (a132.add 9) fun x168 =>
 Ld (.int .u8) w158 (a132.add 10) fun x169 =>
 Ld (.int .u8) w158 (a132.add 11) fun x170 =>
 Ld (.int .u8) w158 (a132.add 12) fun x171 =>
 Ld (.int .u8) w158 (a132.add 13) fun x172 =>
 Ld (.int .u8) w158 (a132.add 14) fun x173 =>
 Ld (.int .u8) w158 (a132.add 15) fun x174 =>
 Ld (.int .u8) w158 (a132.add 16) fun x175 =>
 Ld (.int .u8) w158 (a132.add 17) fun x176 =>
 Ld (.int .u8) w158 (a132.add 18) fun x177 =>
 Ld (.int .u8) w158 (a132.add 19) fun x178 =>
 Ld (.int .u8) w158 (a132.add 20) fun x179 =>
 Ld (.int .u8) w158 (a132.add 21) fun x180 =>
 Ld (.int .u8) w158 (a132.add 22) fun x181 =>
 Ld (.int .u8) w158 (a132.add 23) fun x182 =>
 Ld (.int .u8) w158 (a132.add 24) fun x183 =>
 Ld (.int .u8) w158 (a132.add 25) fun x184 =>
 Ld (.int .u8) w158 (a132.add 26) fun x185 =>
 Ld (.int .u8) w158 (a132.add 27) fun x186 =>
 Ld (.int .u8) w158 (a132.add 28) fun x187 =>
 Ld (.int .u8) w158 (a132.add 29) fun x188 =>
 Ld (.int .u8) w158 (a132.add 30) fun x189 =>
 Ld (.int .u8) w158 (a132.add 31) fun x190 =>
 Ld (.int .u8) w158 (a132.add 32) fun x191 =>
 Ld (.int .u8) w158 (a132.add 33) fun x192 =>
 Ld (.int .u8) w158 (a132.add 34) fun x193 =>
 Ld (.int .u8) w158 (a132.add 35) fun x194 =>
 Ld .slice w158 (a132.add 36) fun x195 =>
 StN ((Value.int .i64 x159) :: (Value.int .i64 x160) :: (Value.int .i64 x161) :: (Value.int .i64 x162) :: (Value.int .u8 x163) :: (Value.int .u8 x164) :: (Value.int .u8 x165) :: (Value.int .u8 x166) :: (Value.int .u8 x167) :: (Value.int .u8 x168) :: (Value.int .u8 x169) :: (Value.int .u8 x170) :: (Value.int .u8 x171) :: (Value.int .u8 x172) :: (Value.int .u8 x173) :: (Value.int .u8 x174) :: (Value.int .u8 x175) :: (Value.int .u8 x176) :: (Value.int .u8 x177) :: (Value.int .u8 x178) :: (Value.int .u8 x179) :: (Value.int .u8 x180) :: (Value.int .u8 x181) :: (Value.int .u8 x182) :: (Value.int .u8 x183) :: (Value.int .u8 x184) :: (Value.int .u8 x185) :: (Value.int .u8 x186) :: (Value.int .u8 x187) :: (Value.int .u8 x188) :: (Value.int .u8 x189) :: (Value.int .u8 x190) :: (Value.int .u8 x191) :: (Value.int .u8 x192) :: (Value.int .u8 x193) :: (Value.int .u8 x194) :: (Value.slice x195.a x195.len x195.cap) :: []) w158 a4 0 fun w196 =>
 Ld (.int .i64) w196 (a4.add 0) fun y197 =>
 Ld (.int .i64) w196 (a4.add 1) fun y198 =>
 Ld (.int .i64) w196 (a4.add 2) fun y199 =>
 Ld (.int .i64) w196 (a4.add 3) fun y200 =>
 Ld (.int .u8) w196 (a4.add 4) fun y201 =>
 Ld (.int .u8) w196 (a4.add 5) fun y202 =>
 Ld (.int .u8) w196 (a4.add 6) fun y203 =>
 Ld (.int .u8) w196 (a4.add 7) fun y204 =>
 Ld (.int .u8) w196 (a4.add 8) fun y205 =>
 Ld (.int .u8) w196 (a4.add 9) fun y206 =>
 Ld (.int .u8) w196 (a4.add 10) fun y207 =>
 Ld (.int .u8) w196 (a4.add 11) fun y208 =>
 Ld (.int .u8) w196 (a4.add 12) fun y209 =>
 Ld (.int .u8) w196 (a4.add 13) fun y210 =>
 Ld (.int .u8) w196 (a4.add 14) fun y211 =>
 Ld (.int .u8) w196 (a4.add 15) fun y212 =>
 Ld (.int .u8) w196 (a4.add 16) fun y213 =>
 Ld (.int .u8) w196 (a4.add 17) fun y214 =>
 Ld (.int .u8) w196 (a4.add 18) fun y215 =>
 Ld (.int .u8) w196 (a4.add 19) fun y216 =>
 Ld (.int .u8) w196 (a4.add 20) fun y217 =>
 Ld (.int .u8) w196 (a4.add 21) fun y218 =>
 Ld (.int .u8) w196 (a4.add 22) fun y219 =>
 Ld (.int .u8) w196 (a4.add 23) fun y220 =>
 Ld (.int .u8) w196 (a4.add 24) fun y221 =>
 Ld (.int .u8) w196 (a4.add 25) fun y222 =>
 Ld (.int .u8) w196 (a4.add 26) fun y223 =>
 Ld (.int .u8) w196 (a4.add 27) fun y224 =>
 Ld (.int .u8) w196 (a4.add 28) fun y225 =>
 Ld (.int .u8) w196 (a4.add 29) fun y226 =>
 Ld (.int .u8) w196 (a4.add 30) fun y227 =>
 Ld (.int .u8) w196 (a4.add 31) fun y228 =>
 Ld (.int .u8) w196 (a4.add 32) fun y229 =>
 Ld (.int .u8) w196 (a4.add 33) fun y230 =>
 Ld (.int .u8) w196 (a4.add 34) fun y231 =>
 Ld (.int .u8) w196 (a4.add 35) fun y232 =>
 Ld .slice w196 (a4.add 36) fun y233 =>
 K y197 y198 y199 y200 y201 y202 y203 y204 y205 y206 y207 y208 y209 y210 y211 y212 y213 y214 y215 y216 y217 y218 y219 y220 y221 y222 y223 y224 y225 y226 y227 y228 y229 y230 y231 y232 y233 0 w196)) (0, ()) w145))
 (bif (!a1) then
 J87 (decide ((IntKind.i64.wrap ((IntKind.i64.wrap ((IntKind.i64.wrap x44) * 256)) + (IntKind.i64.wrap x46))) > (IntKind.i64.wrap ((a0.len : Int) - 40))))
 else
 J87 false))))
theorem e_ref06_read (a0 : SliceV) (a1 : Bool) (w : World) (K : Int → Int → Int → Int → Int → Int → Int → Int → Int → Int → Int → Int → Int → Int → Int → Int → Int → Int → Int → Int → Int → Int → Int → Int → Int → Int → Int → Int → Int → Int → Int → Int → Int → Int → Int → Int → SliceV → Int → World → Prop) : den Try.prog 110 (bodyOf Try.f71) none (.seq .leaf (.seq (.seq .leaf (.cond (.seq .leaf .leaf) .leaf)) (.seq .leaf (.seq (.seq .leaf (.cond (.seq .leaf .leaf) .leaf)) (.seq (.seq .leaf (.cond (.seq .leaf .leaf) .leaf)) (.seq .leaf (.seq .leaf (.seq .leaf (.seq (.seq .leaf (.blk (.loop [(8, (.int .i64))] (.seq (.seq .leaf (.cond .leaf .leaf)) (.seq (.blk .leaf) .leaf))))) (.seq .leaf (.seq .leaf .leaf))))))))))) (argEnv 0 [(Value.slice a0.a a0.len a0.cap), (Value.bool a1)]) [] w (retK Try.prog [.cell 4 33, .tmp 5] [.agg ((.int .i64) :: (.int .i64) :: (.int .i64) :: (.int .i64) :: (.int .u8) :: (.int .u8) :: (.int .u8) :: (.int .u8) :: (.int .u8) :: (.int .u8) :: (.int .u8) :: (.int .u8) :: (.int .u8) :: (.int .u8) :: (.int .u8) :: (.int .u8) :: (.int .u8) :: (.int .u8) :: (.int .u8) :: (.int .u8) :: (.int .u8) :: (.int .u8) :: (.int .u8) :: (.int .u8) :: (.int .u8) :: (.int .u8) :: (.int .u8) :: (.int .u8) :: (.int .u8) :: (.int .u8) :: (.int .u8) :: (.int .u8) :: (.int .u8) :: (.int .u8) :: (.int .u8) :: (.int .u8) :: .slice :: []), .one (.int .i64)] K) = s_ref06_read a0 a1 w K := by kernel_rfl
theorem ok_ref06_read {a0 a1 w K} (h : s_ref06_read a0 a1 w K) : c_ref06_read a0 a1 w K := by
  have t := fn_sound pok Try.func71 (fn := Try.f71) (c := bodyOf Try.f71) (nt := 110) (by kernel_rfl) (by kernel_rfl) (rs := [.cell 4 33, .tmp 5]) (by kernel_rfl) [.agg ((.int .i64) :: (.int .i64) :: (.int .i64) :: (.int .i64) :: (.int .u8) :: (.int .u8) :: (.int .u8) :: (.int .u8) :: (.int .u8) :: (.int .u8) :: (.int .u8) :: (.int .u8) :: (.int .u8) :: (.int .u8) :: (.int .u8) :: (.int .u8) :: (.int .u8) :: (.int .u8) :: (.int .u8) :: (.int .u8) :: (.int .u8) :: (.int .u8) :: (.int .u8) :: (.int .u8) :: (.int .u8) :: (.int .u8) :: (.int .u8) :: (.int .u8) :: (.int .u8) :: (.int .u8) :: (.int .u8) :: (.int .u8) :: (.int .u8) :: (.int .u8) :: (.int .u8) :: (.int .u8) :: .slice :: []), .one (.int .i64)] K (.seq .leaf (.seq (.seq .leaf (.cond (.seq .leaf .leaf) .leaf)) (.seq .leaf (.seq (.seq .leaf (.cond (.seq .leaf .leaf) .leaf)) (.seq (.seq .leaf (.cond (.seq .leaf .leaf) .leaf)) (.seq .leaf (.seq .leaf (.seq .leaf (.seq (.seq .leaf (.blk (.loop [(8, (.int .i64))] (.seq (.seq .leaf (.cond .leaf .leaf)) (.seq (.blk .leaf) .leaf))))) (.seq .leaf (.seq .leaf .leaf))))))))))) [(Value.slice a0.a a0.len a0.cap), (Value.bool a1)] (by kernel_rfl) w ((e_ref06_read a0 a1 w K).mpr h)
  exact Eq.mp (by kernel_rfl) t

/-- goosepond/goosepondref06.ParseFrag -/
def s_ref06_ParseFrag (a0 : SliceV) (w : World) (K : Int → Int → Int → Bool → SliceV → Int → World → Prop) : Prop :=
 (Al w (.cells ⟨[(Value.int .i64 0), (Value.int .i64 0), (Value.int .i64 0), (Value.bool false)]⟩ 125) fun a3 w2 =>
 (bif (decide ((a0.len : Int) < 8)) then
 StN [(Value.int .i64 0), (Value.int .i64 0), (Value.int .i64 0), (Value.bool false)] w2 a3 0 fun w4 =>
 Ld (.int .i64) w4 (a3.add 0) fun y5 =>
 Ld (.int .i64) w4 (a3.add 1) fun y6 =>
 Ld (.int .i64) w4 (a3.add 2) fun y7 =>
 Ld .bool w4 (a3.add 3) fun y8 =>
 K y5 y6 y7 y8 ⟨none, 0, 0⟩ 3 w4
 else
 c_ref01_Get a0 2 2 w2 fun r9 r10 w11 =>
 c_ref01_Get a0 4 4 w11 fun r12 r13 w14 =>
 AtIx a0 1 0 fun a15 =>
 Ld (.int .u8) w14.drew a15 fun x16 =>
 (8 : Int) ≠ 0 ∧
 (2 : Int) ≠ 0 ∧
 SubSl a0 1 8 (a0.len : Int) fun s17 =>
 AppSl 5 1 1 [(Value.int .u8 0)] ⟨none, 0, 0⟩ s17 w14.drew fun s18 w19 =>
 w19.cell? a15 = some (Value.int .u8 x16) ∧
 StN [(Value.int .i64 (IntKind.i64.wrap x16)), (Value.int .i64 (IntKind.i64.wrap ((IntKind.i64.wrap (Int.tdiv r9 8)) * 8))), (Value.int .i64 r12), (Value.bool ((Int.tmod r9 2) == 1))] w19 a3 0 fun w20 =>
 Ld (.int .i64) w20 (a3.add 0) fun y21 =>
 Ld (.int .i64) w20 (a3.add 1) fun y22 =>
 Ld (.int .i64) w20 (a3.add 2) fun y23 =>
 Ld .bool w20 (a3.add 3) fun y24 =>
 K y21 y22 y23 y24 s18 0 w20))
theorem e_ref06_ParseFrag (a0 : SliceV) (w : World) (K : Int → Int → Int → Bool → SliceV → Int → World → Prop) : den Try.prog 38 (bodyOf Try.f72) none (.seq .leaf (.seq (.seq .leaf (.cond (.seq .leaf .leaf) .leaf)) (.seq .leaf (.seq .leaf (.seq .leaf .leaf))))) (argEnv 0 [(Value.slice a0.a a0.len a0.cap)]) [] w (retK Try.prog [.cell 2 125, .tmp 3, .tmp 4] [.agg [(.int .i64), (.int .i64), (.int .i64), .bool], .one .slice, .one (.int .i64)] K) = s_ref06_ParseFrag a0 w K := by kernel_rfl
theorem ok_ref06_ParseFrag {a0 w K} (h : s_ref06_ParseFrag a0 w K) : c_ref06_ParseFrag a0 w K :=
  fn_sound pok Try.func72 (fn := Try.f72) (c := bodyOf Try.f72) (nt := 38) (by kernel_rfl) (by kernel_rfl) (rs := [.cell 2 125, .tmp 3, .tmp 4]) (by kernel_rfl) [.agg [(.int .i64), (.int .i64), (.int .i64), .bool], .one .slice, .one (.int .i64)] K (.seq .leaf (.seq (.seq .leaf (.cond (.seq .leaf .leaf) .leaf)) (.seq .leaf (.seq .leaf (.seq .leaf .leaf))))) [(Value.slice a0.a a0.len a0.cap)] (by kernel_rfl) w ((e_ref06_ParseFrag a0 w K).mpr h)

/-- goosepond/v6.read -/
def s_v6_read (a0 : SliceV) (a1 : Bool) (w : World) (K : Int → Int → Int → Int → Int → Int → Int → Int → Int → Int → Int → Int → Int → Int → Int → Int → Int → Int → Int → Int → Int → Int → Int → Int → Int → Int → Int → Int → Int → Int → Int → Int → Int → Int → Int → Int → SliceV → Int → World → Prop) : Prop :=
 (Al w (.cells ⟨((Value.int .i64 0) :: (Value.int .i64 0) :: (Value.int .i64 0) :: (Value.int .i64 0) :: (Value.int .u8 0) :: (Value.int .u8 0) :: (Value.int .u8 0) :: (Value.int .u8 0) :: (Value.int .u8 0) :: (Value.int .u8 0) :: (Value.int .u8 0) :: (Value.int .u8 0) :: (Value.int .u8 0) :: (Value.int .u8 0) :: (Value.int .u8 0) :: (Value.int .u8 0) :: (Value.int .u8 0) :: (Value.int .u8 0) :: (Value.int .u8 0) :: (Value.int .u8 0) :: (Value.int .u8 0) :: (Value.int .u8 0) :: (Value.int .u8 0) :: (Value.int .u8 0) :: (Value.int .u8 0) :: (Value.int .u8 0) :: (Value.int .u8 0) :: (Value.int .u8 0) :: (Value.int .u8 0) :: (Value.int .u8 0) :: (Value.int .u8 0) :: (Value.int .u8 0) :: (Value.int .u8 0) :: (Value.int .u8 0) :: (Value.int .u8 0) :: (Value.int .u8 0) :: (Value.slice none 0 0) :: [])⟩ 33) fun a4 w3 =>
 (bif (decide ((a0.len : Int) < 40)) then
 StN ((Value.int .i64 0) :: (Value.int .i64 0) :: (Value.int .i64 0) :: (Value.int .i64 0) :: (Value.int .u8 0) :: (Value.int .u8 0) :: (Value.int .u8 0) :: (Value.int .u8 0) :: (Value.int .u8 0) :: (Value.int .u8 0) :: (Value.int .u8 0) :: (Value.int .u8 0) :: (Value.int .u8 0) :: (Value.int .u8 0) :: (Value.int .u8 0) :: (Value.int .u8 0) :: (Value.int .u8 0) :: (Value.int .u8 0) :: (Value.int .u8 0) :: (Value.int .u8 0) :: (Value.int .u8 0) :: (Value.int .u8 0) :: (Value.int .u8 0) :: (Value.int .u8 0) :: (Value.int .u8 0) :: (Value.int .u8 0) :: (Value.int .u8 0) :: (Value.int .u8 0) :: (Value.int .u8 0) :: (Value.int .u8 0) :: (Value.int .u8 0) :: (Value.int .u8 0) :: (Value.int .u8 0) :: (Value.int .u8 0) :: (Value.int .u8 0) :: (Value.int .u8 0) :: (Value.slice none 0 0) :: []) w3 a4 0 fun w5 =>
 Ld (.int .i64) w5 (a4.add 0) fun y6 =>
 Ld (.int .i64) w5 (a4.add 1) fun y7 =>
 Ld (.int .i64) w5 (a4.add 2) fun y8 =>
 Ld (.int .i64) w5 (a4.add 3) fun y9 =>
 Ld (.int .u8) w5 (a4.add 4) fun y10 =>
 Ld (.int .u8) w5 (a4.add 5) fun y11 =>
 Ld (.int .u8) w5 (a4.add 6) fun y12 =>
 Ld (.int .u8) w5 (a4.add 7) fun y13 =>
 Ld (.int .u8) w5 (a4.add 8) fun y14 =>
 Ld (.int .u8) w5 (a4.add 9) fun y15 =>
 Ld (.int .u8) w5 (a4.add 10) fun y16 =>
 Ld (.int .u8) w5 (a4.add 11) fun y17 =>
 Ld (.int .u8) w5 (a4.add 12) fun y18 =>
 Ld (.int .u8) w5 (a4.add 13) fun y19 =>
 Ld (.int .u8) w5 (a4.add 14) fun y20 =>
 Ld (.int .u8) w5 (a4.add 15) fun y21 =>
 Ld (.int .u8) w5 (a4.add 16) fun y22 =>
 Ld (.int .u8) w5 (a4.add 17) fun y23 =>
 Ld (.int .u8) w5 (a4.add 18) fun y24 =>
 Ld (.int .u8) w5 (a4.add 19) fun y25 =>
 Ld (.int .u8) w5 (a4.add 20) fun y26 =>
 Ld (.int .u8) w5 (a4.add 21) fun y27 =>
 Ld (.int .u8) w5 (a4.add 22) fun y28 =>
 Ld (.int .u8) w5 (a4.add 23) fun y29 =>
 Ld (.int .u8) w5 (a4.add 24) fun y30 =>
 Ld (.int .u8) w5 (a4.add 25) fun y31 =>
 Ld (.int .u8) w5 (a4.add 26) fun y32 =>
 Ld (.int .u8) w5 (a4.add 27) fun y33 =>
 Ld (.int .u8) w5 (a4.add 28) fun y34 =>
 Ld (.int .u8) w5 (a4.add 29) fun y35 =>
 Ld (.int .u8) w5 (a4.add 30) fun y36 =>
 Ld (.int .u8) w5 (a4.add 31) fun y37 =>
 Ld (.int .u8) w5 (a4.add 32) fun y38 =>
 Ld (.int .u8) w5 (a4.add 33) fun y39 =>
 Ld (.int .u8) w5 (a4.add 34) fun y40 =>
 Ld (.int .u8) w5 (a4.add 35) fun y41 =>
 Ld .slice w5 (a4.add 36) fun y42 =>
 K y6 y7 y8 y9 y10 y11 y12 y13 y14 y15 y16 y17 y18 y19 y20 y21 y22 y23 y24 y25 y26 y27 y28 y29 y30 y31 y32 y33 y34 y35 y36 y37 y38 y39 y40 y41 y42 3 w5
 else
 c_be_Get a0 0 4 w3 fun r43 r44 w45 =>
 c_be_Get a0 4 2 w45 fun r46 r47 w48 =>
 0 ≤ (28 : Int) ∧
 (bif ((shrI .i64 r43 28) != 6) then
 StN ((Value.int .i64 0) :: (Value.int .i64 0) :: (Value.int .i64 0) :: (Value.int .i64 0) :: (Value.int .u8 0) :: (Value.int .u8 0) :: (Value.int .u8 0) :: (Value.int .u8 0) :: (Value.int .u8 0) :: (Value.int .u8 0) :: (Value.int .u8 0) :: (Value.int .u8 0) :: (Value.int .u8 0) :: (Value.int .u8 0) :: (Value.int .u8 0) :: (Value.int .u8 0) :: (Value.int .u8 0) :: (Value.int .u8 0) :: (Value.int .u8 0) :: (Value.int .u8 0) :: (Value.int .u8 0) :: (Value.int .u8 0) :: (Value.int .u8 0) :: (Value.int .u8 0) :: (Value.int .u8 0) :: (Value.int .u8 0) :: (Value.int .u8 0) :: (Value.int .u8 0) :: (Value.int .u8 0) :: (Value.int .u8 0) :: (Value.int .u8 0) :: (Value.int .u8 0) :: (Value.int .u8 0) :: (Value.int .u8 0) :: (Value.int .u8 0) :: (Value.int .u8 0) :: (Value.slice none 0 0) :: []) w48 a4 0 fun w49 =>
 Ld (.int .i64) w49 (a4.add 0) fun y50 =>
 Ld (.int .i64) w49 (a4.add 1) fun y51 =>
 Ld (.int .i64) w49 (a4.add 2) fun y52 =>
 Ld (.int .i64) w49 (a4.add 3) fun y53 =>
 Ld (.int .u8) w49 (a4.add 4) fun y54 =>
 Ld (.int .u8) w49 (a4.add 5) fun y55 =>
 Ld (.int .u8) w49 (a4.add 6) fun y56 =>
 Ld (.int .u8) w49 (a4.add 7) fun y57 =>
 Ld (.int .u8) w49 (a4.add 8) fun y58 =>
 Ld (.int .u8) w49 (a4.add 9) fun y59 =>
 Ld (.int .u8) w49 (a4.add 10) fun y60 =>
 Ld (.int .u8) w49 (a4.add 11) fun y61 =>
 Ld (.int .u8) w49 (a4.add 12) fun y62 =>
 Ld (.int .u8) w49 (a4.add 13) fun y63 =>
 Ld (.int .u8) w49 (a4.add 14) fun y64 =>
 Ld (.int .u8) w49 (a4.add 15) fun y65 =>
 Ld (.int .u8) w49 (a4.add 16) fun y66 =>
 Ld (.int .u8) w49 (a4.add 17) fun y67 =>
 Ld (.int .u8) w49 (a4.add 18) fun y68 =>
 Ld (.int .u8) w49 (a4.add 19) fun y69 =>
 Ld (.int .u8) w49 (a4.add 20) fun y70 =>
 Ld (.int .u8) w49 (a4.add 21) fun y71 =>
 Ld (.int .u8) w49 (a4.add 22) fun y72 =>
 Ld (.int .u8) w49 (a4.add 23) fun y73 =>
 Ld (.int .u8) w49 (a4.add 24) fun y74 =>
 Ld (.int .u8) w49 (a4.add 25) fun y75 =>
 Ld (.int .u8) w49 (a4.add 26) fun y76 =>
 Ld (.int .u8) w49 (a4.add 27) fun y77 =>
 Ld (.int .u8) w49 (a4.add 28) fun y78 =>
 Ld (.int .u8) w49 (a4.add 29) fun y79 =>
 Ld (.int .u8) w49 (a4.add 30) fun y80 =>
 Ld (.int .u8) w49 (a4.add 31) fun y81 =>
 Ld (.int .u8) w49 (a4.add 32) fun y82 =>
 Ld (.int .u8) w49 (a4.add 33) fun y83 =>
 Ld (.int .u8) w49 (a4.add 34) fun y84 =>
 Ld (.int .u8) w49 (a4.add 35) fun y85 =>
 Ld .slice w49 (a4.add 36) fun y86 =>
 K y50 y51 y52 y53 y54 y55 y56 y57 y58 y59 y60 y61 y62 y63 y64 y65 y66 y67 y68 y69 y70 y71 y72 y73 y74 y75 y76 y77 y78 y79 y80 y81 y82 y83 y84 y85 y86 4 w49
 else
 let J87 : Bool → Prop := fun j88 =>
 ((bif j88 then
 StN ((Value.int .i64 0) :: (Value.int .i64 0) :: (Value.int .i64 0) :: (Value.int .i64 0) :: (Value.int .u8 0) :: (Value.int .u8 0) :: (Value.int .u8 0) :: (Value.int .u8 0) :: (Value.int .u8 0) :: (Value.int .u8 0) :: (Value.int .u8 0) :: (Value.int .u8 0) :: (Value.int .u8 0) :: (Value.int .u8 0) :: (Value.int .u8 0) :: (Value.int .u8 0) :: (Value.int .u8 0) :: (Value.int .u8 0) :: (Value.int .u8 0) :: (Value.int .u8 0) :: (Value.int .u8 0) :: (Value.int .u8 0) :: (Value.int .u8 0) :: (Value.int .u8 0) :: (Value.int .u8 0) :: (Value.int .u8 0) :: (Value.int .u8 0) :: (Value.int .u8 0) :: (Value.int .u8 0) :: (Value.int .u8 0) :: (Value.int .u8 0) :: (Value.int .u8 0) :: (Value.int .u8 0) :: (Value.int .u8 0) :: (Value.int .u8 0) :: (Value.int .u8 0) :: (Value.slice none 0 0) :: []) w48 a4 0 fun w89 =>
 Ld (.int .i64) w89 (a4.add 0) fun y90 =>
 Ld (.int .i64) w89 (a4.add 1) fun y91 =>
 Ld (.int .i64) w89 (a4.add 2) fun y92 =>
 Ld (.int .i64) w89 (a4.add 3) fun y93 =>
 Ld (.int .u8) w89 (a4.add 4) fun y94 =>
 Ld (.int .u8) w89 (a4.add 5) fun y95 =>
 Ld (.int .u8) w89 (a4.add 6) fun y96 =>
 Ld (.int .u8) w89 (a4.add 7) fun y97 =>
 Ld (.int .u8) w89 (a4.add 8) fun y98 =>
 Ld (.int .u8) w89 (a4.add 9) fun y99 =>
 Ld (.int .u8) w89 (a4.add 10) fun y100 =>
 Ld (.int .u8) w89 (a4.add 11) fun y101 =>
 Ld (.int .u8) w89 (a4.add 12) fun y102 =>
 Ld (.int .u8) w89 (a4.add 13) fun y103 =>
 Ld (.int .u8) w89 (a4.add 14) fun y104 =>
 Ld (.int .u8) w89 (a4.add 15) fun y105 =>
 Ld (.int .u8) w89 (a4.add 16) fun y106 =>
 Ld (.int .u8) w89 (a4.add 17) fun y107 =>
 Ld (.int .u8) w89 (a4.add 18) fun y108 =>
 Ld (.int .u8) w89 (a4.add 19) fun y109 =>
 Ld (.int .u8) w89 (a4.add 20) fun y110 =>
 Ld (.int .u8) w89 (a4.add 21) fun y111 =>
 Ld (.int .u8) w89 (a4.add 22) fun y112 =>
 Ld (.int .u8) w89 (a4.add 23) fun y113 =>
 Ld (.int .u8) w89 (a4.add 24) fun y114 =>
 Ld (.int .u8) w89 (a4.add 25) fun y115 =>
 Ld (.int .u8) w89 (a4.add 26) fun y116 =>
 Ld (.int .u8) w89 (a4.add 27) fun y117 =>
 Ld (.int .u8) w89 (a4.add 28) fun y118 =>
 Ld (.int .u8) w89 (a4.add 29) fun y119 =>
 Ld (.int .u8) w89 (a4.add 30) fun y120 =>
 Ld (.int .u8) w89 (a4.add 31) fun y121 =>
 Ld (.int .u8) w89 (a4.add 32) fun y122 =>
 Ld (.int .u8) w89 (a4.add 33) fun y123 =>
 Ld (.int .u8) w89 (a4.add 34) fun y124 =>
 Ld (.int .u8) w89 (a4.add 35) fun y125 =>
 Ld .slice w89 (a4.add 36) fun y126 =>
 K y90 y91 y92 y93 y94 y95 y96 y97 y98 y99 y100 y101 y102 y103 y104 y105 y106 y107 y108 y109 y110 y111 y112 y113 y114 y115 y116 y117 y118 y119 y120 y121 y122 y123 y124 y125 y126 3 w89
 else
 0 ≤ (20 : Int) ∧
 AtIx a0 1 6 fun a127 =>
 Ld (.int .u8) w48.drew a127 fun x128 =>
 AtIx a0 1 7 fun a129 =>
 Ld (.int .u8) w48.drew a129 fun x130 =>
 Al w48.drew (.cells ⟨((Value.int .i64 0) :: (Value.int .i64 0) :: (Value.int .i64 0) :: (Value.int .i64 0) :: (Value.int .u8 0) :: (Value.int .u8 0) :: (Value.int .u8 0) :: (Value.int .u8 0) :: (Value.int .u8 0) :: (Value.int .u8 0) :: (Value.int .u8 0) :: (Value.int .u8 0) :: (Value.int .u8 0) :: (Value.int .u8 0) :: (Value.int .u8 0) :: (Value.int .u8 0) :: (Value.int .u8 0) :: (Value.int .u8 0) :: (Value.int .u8 0) :: (Value.int .u8 0) :: (Value.int .u8 0) :: (Value.int .u8 0) :: (Value.int .u8 0) :: (Value.int .u8 0) :: (Value.int .u8 0) :: (Value.int .u8 0) :: (Value.int .u8 0) :: (Value.int .u8 0) :: (Value.int .u8 0) :: (Value.int .u8 0) :: (Value.int .u8 0) :: (Value.int .u8 0) :: (Value.int .u8 0) :: (Value.int .u8 0) :: (Value.int .u8 0) :: (Value.int .u8 0) :: (Value.slice none 0 0) :: [])⟩ 33) fun a132 w131 =>
 w131.cell? a129 = some (Value.int .u8 x130) ∧
 w131.cell? a127 = some (Value.int .u8 x128) ∧
 StN ((Value.int .i64 (andI .i64 (shrI .i64 r43 20) 255)) :: (Value.int .i64 (andI .i64 r43 1048575)) :: (Value.int .i64 (IntKind.i64.wrap x128)) :: (Value.int .i64 (IntKind.i64.wrap x130)) :: (Value.int .u8 0) :: (Value.int .u8 0) :: (Value.int .u8 0) :: (Value.int .u8 0) :: (Value.int .u8 0) :: (Value.int .u8 0) :: (Value.int .u8 0) :: (Value.int .u8 0) :: (Value.int .u8 0) :: (Value.int .u8 0) :: (Value.int .u8 0) :: (Value.int .u8 0) :: (Value.int .u8 0) :: (Value.int .u8 0) :: (Value.int .u8 0) :: (Value.int .u8 0) :: (Value.int .u8 0) :: (Value.int .u8 0) :: (Value.int .u8 0) :: (Value.int .u8 0) :: (Value.int .u8 0) :: (Value.int .u8 0) :: (Value.int .u8 0) :: (Value.int .u8 0) :: (Value.int .u8 0) :: (Value.int .u8 0) :: (Value.int .u8 0) :: (Value.int .u8 0) :: (Value.int .u8 0) :: (Value.int .u8 0) :: (Value.int .u8 0) :: (Value.int .u8 0) :: (Value.slice none 0 0) :: []) w131 a132 0 fun w133 =>
 SubArr (a132.add 4) 16 1 0 (16 : Int) fun s134 =>
 SubSl a0 1 8 (a0.len : Int) fun s135 =>
 CopySl 1 s134 s135 w133.drew fun n136 w137 =>
 SubArr (a132.add 20) 16 1 0 (16 : Int) fun s138 =>
 SubSl a0 1 24 (a0.len : Int) fun s139 =>
 CopySl 1 s138 s139 w137.drew fun n140 w141 =>
 SubSl a0 1 40 (if (a0.len : Int) < (IntKind.i64.wrap (40 + r46)) then (a0.len : Int) else (IntKind.i64.wrap (40 + r46))) fun s142 =>
 c_slices_Clone_byte_byte s142 w141 fun r143 w144 =>
 St w144 (a132.add 36) (Value.slice r143.a r143.len r143.cap) fun w145 =>
 Ld (.int .i64) w145 (a132.add 0) fun x146 =>
 Ld (.int .i64) w145 (a132.add 1) fun x147 =>
 Ld (.int .i64) w145 (a132.add 2) fun x148 =>
 Ld (.int .i64) w145 (a132.add 3) fun x149 =>
 Ld (.int .u8) w145 (a132.add 4) fun x150 =>
 Ld (.int .u8) w145 (a132.add 5) fun x151 =>
 Ld (.int .u8) w145 (a132.add 6) fun x152 =>
 Ld (.int .u8) w145 (a132.add 7) fun x153 =>
 Ld (.int .u8) w145 (a132.add 8) fun x154 =>
 Ld (.int .u8) w145 (a132.add 9) fun x155 =>
 Ld (.int .u8) w145 (a132.add 10) fun x156 =>
 Ld (.int .u8) w145 (a132.add 11) fun x157 =>
 Ld (.int .u8) w145 (a132.add 12) fun x158 =>
 Ld (.int .u8) w145 (a132.add 13) fun x159 =>
 Ld (.int .u8) w145 (a132.add 14) fun x160 =>
 Ld (.int .u8) w145 (a132.add 15) fun x161 =>
 Ld (.int .u8) w145 (a132.add 16) fun x162 =>
 Ld (.int .u8) w145 (a132.add 17) fun x163 =>
 Ld (.int .u8) w145 (a132.add 18) fun x164 =>
 Ld (.int .u8) w145 (a132.add 19) fun x165 =>
 Ld (.int .u8) w145 (a132.add 20) fun x166 =>
 Ld (.int .u8) w145 (a132.add 21) fun x167 =>
 Ld (.int .u8) w145 (a132.add 22) fun x168 =>
 Ld (.int .u8) w145 (a132.add 23) fun x169 =>
 Ld (.int .u8) w145 (a132.add 24) fun x170 =>
 Ld (.int .u8) w145 (a132.add 25) fun x171 =>
 Ld (.int .u8) w145 (a132.add 26) fun x172 =>
 Ld (.int .u8) w145 (a132.add 27) fun x173 =>
 Ld (.int .u8) w145 (a132.add 28) fun x174 =>
 Ld (.int .u8) w145 (a132.add 29) fun x175 =>
 Ld (.int .u8) w145 (a132.add 30) fun x176 =>
 Ld (.int .u8) w145 (a132.add 31) fun x177 =>
 Ld (.int .u8) w145 (a132.add 32) fun x178 =>
 Ld (.int .u8) w145 (a132.add 33) fun x179 =>
 Ld (.int .u8) w145 (a132.add 34) fun x180 =>
 Ld (.int .u8) w145 (a132.add 35) fun x181 =>
 Ld .slice w145 (a132.add 36) fun x182 =>
 StN ((Value.int .i64 x146) :: (Value.int .i64 x147) :: (Value.int .i64 x148) :: (Value.int .i64 x149) :: (Value.int .u8 x150) :: (Value.int .u8 x151) :: (Value.int .u8 x152) :: (Value.int .u8 x153) :: (Value.int .u8 x154) :: (Value.int .u8 x155) :: (Value.int .u8 x156) :: (Value.int .u8 x157) :: (Value.int .u8 x158) :: (Value.int .u8 x159) :: (Value.int .u8 x160) :: (Value.int .u8 x161) :: (Value.int .u8 x162) :: (Value.int .u8 x163) :: (Value.int .u8 x164) :: (Value.int .u8 x165) :: (Value.int .u8 x166) :: (Value.int .u8 x167) :: (Value.int .u8 x168) :: (Value.int .u8 x169) :: (Value.int .u8 x170) :: (Value.int .u8 x171) :: (Value.int .u8 x172) :: (Value.int .u8 x173) :: (Value.int .u8 x174) :: (Value.int .u8 x175) :: (Value.int .u8 x176) :: (Value.int .u8 x177) :: (Value.int .u8 x178) :: (Value.int .u8 x179) :: (Value.int .u8 x180) :: (Value.int .u8 x181) :: (Value.slice x182.a x182.len x182.cap) :: []) w145 a4 0 fun w183 =>
 Ld (.int .i64) w183 (a4.add 0) fun y184 =>
 Ld (.int .i64) w183 (a4.add 1) fun y185 =>
 Ld (.int .i64) w183 (a4.add 2) fun y186 =>
 Ld (.int .i64) w183 (a4.add 3) fun y187 =>
 Ld (.int .u8) w183 (a4.add 4) fun y188 =>
 Ld (.int .u8) w183 (a4.add 5) fun y189 =>
 Ld (.int .u8) w183 (a4.add 6) fun y190 =>
 Ld (.int .u8) w183 (a4.add 7) fun y191 =>
 Ld (.int .u8) w183 (a4.add 8) fun y192 =>
 Ld (.int .u8) w183 (a4.add 9) fun y193 =>
 Ld (.int .u8) w183 (a4.add 10) fun y194 =>
 Ld (.int .u8) w183 (a4.add 11) fun y195 =>
 Ld (.int .u8) w183 (a4.add 12) fun y196 =>
 Ld (.int .u8) w183 (a4.add 13) fun y197 =>
 Ld (.int .u8) w183 (a4.add 14) fun y198 =>
 Ld (.int .u8) w183 (a4.add 15) fun y199 =>
 Ld (.int .u8) w183 (a4.add 16) fun y200 =>
 Ld (.int .u8) w183 (a4.add 17) fun y201 =>
 Ld (.int .u8) w183 (a4.add 18) fun y202 =>
 Ld (.int .u8) w183 (a4.add 19) fun y203 =>
 Ld (.int .u8) w183 (a4.add 20) fun y204 =>
 Ld (.int .u8) w183 (a4.add 21) fun y205 =>
 Ld (.int .u8) w183 (a4.add 22) fun y206 =>
 Ld (.int .u8) w183 (a4.add 23) fun y207 =>
 Ld (.int .u8) w183 (a4.add 24) fun y208 =>
 Ld (.int .u8) w183 (a4.add 25) fun y209 =>
 Ld (.int .u8) w183 (a4.add 26) fun y210 =>
 Ld (.int .u8) w183 (a4.add 27) fun y211 =>
 Ld (.int .u8) w183 (a4.add 28) fun y212 =>
 Ld (.int .u8) w183 (a4.add 29) fun y213 =>
 Ld (.int .u8) w183 (a4.add 30) fun y214 =>
 Ld (.int .u8) w183 (a4.add 31) fun y215 =>
 Ld (.int .u8) w183 (a4.add 32) fun y216 =>
 Ld (.int .u8) w183 (a4.add 33) fun y217 =>
 Ld (.int .u8) w183 (a4.add 34) fun y218 =>
 Ld (.int .u8) w183 (a4.add 35) fun y219 =>
 Ld .slice w183 (a4.add 36) fun y220 =>
 K y184 y185 y186 y187 y188 y189 y190 y191 y192 y193 y194 y195 y196 y197 y198 y199 y200 y201 y202 y203 y204 y205 y206 y207 y208 y209 y210 y211 y212 y213 y214 y215 y216 y217 y218 y219 y220 0 w183))
 (bif (decide (r46 > (IntKind.i64.wrap ((a0.len : Int) - 40)))) then
 J87 (!a1)
 else
 J87 false))))
theorem e_v6_read (a0 : SliceV) (a1 : Bool) (w : World) (K : Int → Int → Int → Int → Int → Int → Int → Int → Int → Int → Int → Int → Int → Int → Int → Int → Int → Int → Int → Int → Int → Int → Int → Int → Int → Int → Int → Int → Int → Int → Int → Int → Int → Int → Int → Int → SliceV → Int → World → Prop) : den Try.prog 75 (bodyOf Try.f88) none (.seq .leaf (.seq (.seq .leaf (.cond (.seq .leaf .leaf) .leaf)) (.seq .leaf (.seq .leaf (.seq (.blk (.seq .leaf (.cond (.seq .leaf .leaf) (.seq .leaf (.cond (.seq .leaf .leaf) .leaf))))) (.seq .leaf (.seq .leaf (.seq .leaf (.seq .leaf (.seq .leaf .leaf)))))))))) (argEnv 0 [(Value.slice a0.a a0.len a0.cap), (Value.bool a1)]) [] w (retK Try.prog [.cell 4 33, .tmp 5] [.agg ((.int .i64) :: (.int .i64) :: (.int .i64) :: (.int .i64) :: (.int .u8) :: (.int .u8) :: (.int .u8) :: (.int .u8) :: (.int .u8) :: (.int .u8) :: (.int .u8) :: (.int .u8) :: (.int .u8) :: (.int .u8) :: (.int .u8) :: (.int .u8) :: (.int .u8) :: (.int .u8) :: (.int .u8) :: (.int .u8) :: (.int .u8) :: (.int .u8) :: (.int .u8) :: (.int .u8) :: (.int .u8) :: (.int .u8) :: (.int .u8) :: (.int .u8) :: (.int .u8) :: (.int .u8) :: (.int .u8) :: (.int .u8) :: (.int .u8) :: (.int .u8) :: (.int .u8) :: (.int .u8) :: .slice :: []), .one (.int .i64)] K) = s_v6_read a0 a1 w K := by kernel_rfl
theorem ok_v6_read {a0 a1 w K} (h : s_v6_read a0 a1 w K) : c_v6_read a0 a1 w K := by
  have t := fn_sound pok Try.func88 (fn := Try.f88) (c := bodyOf Try.f88) (nt := 75) (by kernel_rfl) (by kernel_rfl) (rs := [.cell 4 33, .tmp 5]) (by kernel_rfl) [.agg ((.int .i64) :: (.int .i64) :: (.int .i64) :: (.int .i64) :: (.int .u8) :: (.int .u8) :: (.int .u8) :: (.int .u8) :: (.int .u8) :: (.int .u8) :: (.int .u8) :: (.int .u8) :: (.int .u8) :: (.int .u8) :: (.int .u8) :: (.int .u8) :: (.int .u8) :: (.int .u8) :: (.int .u8) :: (.int .u8) :: (.int .u8) :: (.int .u8) :: (.int .u8) :: (.int .u8) :: (.int .u8) :: (.int .u8) :: (.int .u8) :: (.int .u8) :: (.int .u8) :: (.int .u8) :: (.int .u8) :: (.int .u8) :: (.int .u8) :: (.int .u8) :: (.int .u8) :: (.int .u8) :: .slice :: []), .one (.int .i64)] K (.seq .leaf (.seq (.seq .leaf (.cond (.seq .leaf .leaf) .leaf)) (.seq .leaf (.seq .leaf (.seq (.blk (.seq .leaf (.cond (.seq .leaf .leaf) (.seq .leaf (.cond (.seq .leaf .leaf) .leaf))))) (.seq .leaf (.seq .leaf (.seq .leaf (.seq .leaf (.seq .leaf .leaf)))))))))) [(Value.slice a0.a a0.len a0.cap), (Value.bool a1)] (by kernel_rfl) w ((e_v6_read a0 a1 w K).mpr h)
  exact Eq.mp (by kernel_rfl) t

/-- goosepond/v6.ParseFrag -/
def s_v6_ParseFrag (a0 : SliceV) (w : World) (K : Int → Int → Int → Bool → SliceV → Int → World → Prop) : Prop :=
 (Al w (.cells ⟨[(Value.int .i64 0), (Value.int .i64 0), (Value.int .i64 0), (Value.bool false)]⟩ 125) fun a3 w2 =>
 (bif (decide ((a0.len : Int) < 8)) then
 StN [(Value.int .i64 0), (Value.int .i64 0), (Value.int .i64 0), (Value.bool false)] w2 a3 0 fun w4 =>
 Ld (.int .i64) w4 (a3.add 0) fun y5 =>
 Ld (.int .i64) w4 (a3.add 1) fun y6 =>
 Ld (.int .i64) w4 (a3.add 2) fun y7 =>
 Ld .bool w4 (a3.add 3) fun y8 =>
 K y5 y6 y7 y8 ⟨none, 0, 0⟩ 3 w4
 else
 c_be_Get a0 2 2 w2 fun r9 r10 w11 =>
 c_be_Get a0 4 4 w11 fun r12 r13 w14 =>
 AtIx a0 1 0 fun a15 =>
 Ld (.int .u8) w14 a15 fun x16 =>
 Al w14 (.cells ⟨[(Value.int .i64 0), (Value.int .i64 0), (Value.int .i64 0), (Value.bool false)]⟩ 125) fun a18 w17 =>
 StN [(Value.int .i64 (IntKind.i64.wrap x16)), (Value.int .i64 (andNotI .i64 r9 7)), (Value.int .i64 r12), (Value.bool ((andI .i64 r9 1) == 1))] w17 a18 0 fun w19 =>
 Ld (.int .i64) w19.drew (a18.add 0) fun x20 =>
 Ld (.int .i64) w19.drew (a18.add 1) fun x21 =>
 Ld (.int .i64) w19.drew (a18.add 2) fun x22 =>
 Ld .bool w19.drew (a18.add 3) fun x23 =>
 SubSl a0 1 8 (a0.len : Int) fun s24 =>
 c_slices_Clone_byte_byte s24 w19.drew fun r25 w26 =>
 w26.cell? (a18.add 0) = some (Value.int .i64 x20) ∧
 w26.cell? (a18.add 1) = some (Value.int .i64 x21) ∧
 w26.cell? (a18.add 2) = some (Value.int .i64 x22) ∧
 w26.cell? (a18.add 3) = some (Value.bool x23) ∧
 StN [(Value.int .i64 x20), (Value.int .i64 x21), (Value.int .i64 x22), (Value.bool x23)] w26 a3 0 fun w27 =>
 Ld (.int .i64) w27 (a3.add 0) fun y28 =>
 Ld (.int .i64) w27 (a3.add 1) fun y29 =>
 Ld (.int .i64) w27 (a3.add 2) fun y30 =>
 Ld .bool w27 (a3.add 3) fun y31 =>
 K y28 y29 y30 y31 r25 0 w27))
theorem e_v6_ParseFrag (a0 : SliceV) (w : World) (K : Int → Int → Int → Bool → SliceV → Int → World → Prop) : den Try.prog 39 (bodyOf Try.f89) none (.seq .leaf (.seq (.seq .leaf (.cond (.seq .leaf .leaf) .leaf)) (.seq .leaf (.seq .leaf (.seq .leaf (.seq .leaf .leaf)))))) (argEnv 0 [(Value.slice a0.a a0.len a0.cap)]) [] w (retK Try.prog [.cell 2 125, .tmp 3, .tmp 4] [.agg [(.int .i64), (.int .i64), (.int .i64), .bool], .one .slice, .one (.int .i64)] K) = s_v6_ParseFrag a0 w K := by kernel_rfl
theorem ok_v6_ParseFrag {a0 w K} (h : s_v6_ParseFrag a0 w K) : c_v6_ParseFrag a0 w K :=
  fn_sound pok Try.func89 (fn := Try.f89) (c := bodyOf Try.f89) (nt := 39) (by kernel_rfl) (by kernel_rfl) (rs := [.cell 2 125, .tmp 3, .tmp 4]) (by kernel_rfl) [.agg [(.int .i64), (.int .i64), (.int .i64), .bool], .one .slice, .one (.int .i64)] K (.seq .leaf (.seq (.seq .leaf (.cond (.seq .leaf .leaf) .leaf)) (.seq .leaf (.seq .leaf (.seq .leaf (.seq .leaf .leaf)))))) [(Value.slice a0.a a0.len a0.cap)] (by kernel_rfl) w ((e_v6_ParseFrag a0 w K).mpr h)

end Go.Proofs
