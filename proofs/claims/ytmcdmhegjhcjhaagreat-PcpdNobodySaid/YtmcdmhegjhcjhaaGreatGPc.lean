import Derived.Test.YtmcdmhegjhcjhaaGreatFn
import Derived.Test.YtmcdmhegjhcjhaaGreatProg
import Derived.KernelRfl
namespace Go.Proofs
open Gp
set_option maxRecDepth 100000
set_option maxHeartbeats 4000000
theorem pok : POk Tryz.prog := POk.of_all (by kernel_rfl) (by kernel_rfl)

/-- goosepond/goosepondlaw44.PcpdNobody -/
abbrev n_law44_PcpdNobody : FuncId := 4
def c_law44_PcpdNobody (a0 : Int) (a1 : Int) (a2 : SliceV) (a3 : Int) (w : World) (K : Bool → World → Prop) : Prop :=
  Calls Tryz.prog 4 ⟨[(Value.int .i64 a0), (Value.int .i64 a1), (Value.slice a2.a a2.len a2.cap), (Value.int .i64 a3)]⟩ w fun e w' => ∃ y50 : Bool, e = .returned (Value.bool y50) ∧ K y50 w'
theorem cm_law44_PcpdNobody {a0 a1 a2 a3 w K K'} (h : c_law44_PcpdNobody a0 a1 a2 a3 w K) (hk : ∀ x0 w', K x0 w' → K' x0 w') : c_law44_PcpdNobody a0 a1 a2 a3 w K' :=
  Calls.mono h fun e w' hh => by obtain ⟨x0, he, hx⟩ := hh; exact ⟨x0, he, hk _ _ hx⟩

/-- goosepond/goosepondlaw44.awake -/
abbrev n_law44_awake : FuncId := 11
def c_law44_awake  (w : World) (K : Bool → World → Prop) : Prop :=
  Calls Tryz.prog 11 ⟨[]⟩ w fun e w' => ∃ y114 : Bool, e = .returned (Value.bool y114) ∧ K y114 w'
theorem cm_law44_awake { w K K'} (h : c_law44_awake  w K) (hk : ∀ x0 w', K x0 w' → K' x0 w') : c_law44_awake  w K' :=
  Calls.mono h fun e w' hh => by obtain ⟨x0, he, hx⟩ := hh; exact ⟨x0, he, hk _ _ hx⟩

/-- (*goosepond/pcpd.Server).Serve -/
abbrev n_pcpd_Server_Serve : FuncId := 12
def c_pcpd_Server_Serve (a0 : Option Addr) (a1 : Int) (a2 : Int) (a3 : SliceV) (w : World) (K : SliceV → Int → World → Prop) : Prop :=
  Calls Tryz.prog 12 ⟨[(Value.pointer a0), (Value.int .i64 a1), (Value.int .i64 a2), (Value.slice a3.a a3.len a3.cap)]⟩ w fun e w' => ∃ y193 : SliceV, ∃ y194 : Int, e = .returned (Value.tuple ⟨[(Value.slice y193.a y193.len y193.cap), (Value.int .i64 y194)]⟩) ∧ K y193 y194 w'
theorem cm_pcpd_Server_Serve {a0 a1 a2 a3 w K K'} (h : c_pcpd_Server_Serve a0 a1 a2 a3 w K) (hk : ∀ x0 x1 w', K x0 x1 w' → K' x0 x1 w') : c_pcpd_Server_Serve a0 a1 a2 a3 w K' :=
  Calls.mono h fun e w' hh => by obtain ⟨x0, x1, he, hx⟩ := hh; exact ⟨x0, x1, he, hk _ _ _ hx⟩

/-- goosepond/pcpd.New -/
abbrev n_pcpd_New : FuncId := 13
def c_pcpd_New (a0 : Option Addr) (a1 : Int) (w : World) (K : (Option Addr) → Int → World → Prop) : Prop :=
  Calls Tryz.prog 13 ⟨[(Value.pointer a0), (Value.int .i64 a1)]⟩ w fun e w' => ∃ y24 : Option Addr, ∃ y25 : Int, e = .returned (Value.tuple ⟨[(Value.pointer y24), (Value.int .i64 y25)]⟩) ∧ K y24 y25 w'
theorem cm_pcpd_New {a0 a1 w K K'} (h : c_pcpd_New a0 a1 w K) (hk : ∀ x0 x1 w', K x0 x1 w' → K' x0 x1 w') : c_pcpd_New a0 a1 w K' :=
  Calls.mono h fun e w' hh => by obtain ⟨x0, x1, he, hx⟩ := hh; exact ⟨x0, x1, he, hk _ _ _ hx⟩

/-- (*goosepond/pcpd.Server).Leases -/
abbrev n_pcpd_Server_Leases : FuncId := 14
def c_pcpd_Server_Leases (a0 : Option Addr) (w : World) (K : Value → World → Prop) : Prop :=
  Calls Tryz.prog 14 ⟨[(Value.pointer a0)]⟩ w fun e w' => ∃ y4 : Value, e = .returned y4 ∧ K y4 w'
theorem cm_pcpd_Server_Leases {a0 w K K'} (h : c_pcpd_Server_Leases a0 w K) (hk : ∀ x0 w', K x0 w' → K' x0 w') : c_pcpd_Server_Leases a0 w K' :=
  Calls.mono h fun e w' hh => by obtain ⟨x0, he, hx⟩ := hh; exact ⟨x0, he, hk _ _ hx⟩

/-- (*goosepond/pcpd.Server).Advance -/
abbrev n_pcpd_Server_Advance : FuncId := 15
def c_pcpd_Server_Advance (a0 : Option Addr) (a1 : Int) (w : World) (K : Int → World → Prop) : Prop :=
  Calls Tryz.prog 15 ⟨[(Value.pointer a0), (Value.int .i64 a1)]⟩ w fun e w' => ∃ y35 : Int, e = .returned (Value.int .i64 y35) ∧ K y35 w'
theorem cm_pcpd_Server_Advance {a0 a1 w K K'} (h : c_pcpd_Server_Advance a0 a1 w K) (hk : ∀ x0 w', K x0 w' → K' x0 w') : c_pcpd_Server_Advance a0 a1 w K' :=
  Calls.mono h fun e w' hh => by obtain ⟨x0, he, hx⟩ := hh; exact ⟨x0, he, hk _ _ hx⟩

/-- (*goosepond/pcpd.Server).Now -/
abbrev n_pcpd_Server_Now : FuncId := 16
def c_pcpd_Server_Now (a0 : Option Addr) (w : World) (K : Int → World → Prop) : Prop :=
  Calls Tryz.prog 16 ⟨[(Value.pointer a0)]⟩ w fun e w' => ∃ y6 : Int, e = .returned (Value.int .i64 y6) ∧ K y6 w'
theorem cm_pcpd_Server_Now {a0 w K K'} (h : c_pcpd_Server_Now a0 w K) (hk : ∀ x0 w', K x0 w' → K' x0 w') : c_pcpd_Server_Now a0 w K' :=
  Calls.mono h fun e w' hh => by obtain ⟨x0, he, hx⟩ := hh; exact ⟨x0, he, hk _ _ hx⟩

/-- (*goosepond/pcpd.Server).ready -/
abbrev n_pcpd_Server_ready : FuncId := 42
def c_pcpd_Server_ready (a0 : Option Addr) (w : World) (K : Bool → World → Prop) : Prop :=
  Calls Tryz.prog 42 ⟨[(Value.pointer a0)]⟩ w fun e w' => ∃ y6 : Bool, e = .returned (Value.bool y6) ∧ K y6 w'
theorem cm_pcpd_Server_ready {a0 w K K'} (h : c_pcpd_Server_ready a0 w K) (hk : ∀ x0 w', K x0 w' → K' x0 w') : c_pcpd_Server_ready a0 w K' :=
  Calls.mono h fun e w' hh => by obtain ⟨x0, he, hx⟩ := hh; exact ⟨x0, he, hk _ _ hx⟩

/-- goosepond/pcp.Parse -/
abbrev n_pcp_Parse : FuncId := 43
def c_pcp_Parse (a0 : SliceV) (w : World) (K : Int → Int → Int → Int → Int → Int → Int → Int → Int → Int → Int → Int → Int → Int → Int → Int → Int → Int → Int → Int → Int → Int → Int → Int → Int → Int → Int → Int → Int → Int → Int → Int → Int → Int → World → Prop) : Prop :=
  Calls Tryz.prog 43 ⟨[(Value.slice a0.a a0.len a0.cap)]⟩ w fun e w' => ∃ y73 : Int, ∃ y74 : Int, ∃ y75 : Int, ∃ y76 : Int, ∃ y77 : Int, ∃ y78 : Int, ∃ y79 : Int, ∃ y80 : Int, ∃ y81 : Int, ∃ y82 : Int, ∃ y83 : Int, ∃ y84 : Int, ∃ y85 : Int, ∃ y86 : Int, ∃ y87 : Int, ∃ y88 : Int, ∃ y89 : Int, ∃ y90 : Int, ∃ y91 : Int, ∃ y92 : Int, ∃ y93 : Int, ∃ y94 : Int, ∃ y95 : Int, ∃ y96 : Int, ∃ y97 : Int, ∃ y98 : Int, ∃ y99 : Int, ∃ y100 : Int, ∃ y101 : Int, ∃ y102 : Int, ∃ y103 : Int, ∃ y104 : Int, ∃ y105 : Int, ∃ y106 : Int, e = .returned (Value.tuple ⟨[(Value.agg ⟨((Value.int .i64 y73) :: (Value.int .u8 y74) :: (Value.int .u8 y75) :: (Value.int .u8 y76) :: (Value.int .u8 y77) :: (Value.int .u8 y78) :: (Value.int .u8 y79) :: (Value.int .u8 y80) :: (Value.int .u8 y81) :: (Value.int .u8 y82) :: (Value.int .u8 y83) :: (Value.int .u8 y84) :: (Value.int .u8 y85) :: (Value.int .u8 y86) :: (Value.int .u8 y87) :: (Value.int .u8 y88) :: (Value.int .u8 y89) :: (Value.int .u8 y90) :: (Value.int .u8 y91) :: (Value.int .u8 y92) :: (Value.int .u8 y93) :: (Value.int .u8 y94) :: (Value.int .u8 y95) :: (Value.int .u8 y96) :: (Value.int .u8 y97) :: (Value.int .u8 y98) :: (Value.int .u8 y99) :: (Value.int .u8 y100) :: (Value.int .u8 y101) :: (Value.int .i64 y102) :: (Value.int .i64 y103) :: (Value.int .i64 y104) :: (Value.int .i64 y105) :: [])⟩), (Value.int .i64 y106)]⟩) ∧ K y73 y74 y75 y76 y77 y78 y79 y80 y81 y82 y83 y84 y85 y86 y87 y88 y89 y90 y91 y92 y93 y94 y95 y96 y97 y98 y99 y100 y101 y102 y103 y104 y105 y106 w'
theorem cm_pcp_Parse {a0 w K K'} (h : c_pcp_Parse a0 w K) (hk : ∀ x0 x1 x2 x3 x4 x5 x6 x7 x8 x9 x10 x11 x12 x13 x14 x15 x16 x17 x18 x19 x20 x21 x22 x23 x24 x25 x26 x27 x28 x29 x30 x31 x32 x33 w', K x0 x1 x2 x3 x4 x5 x6 x7 x8 x9 x10 x11 x12 x13 x14 x15 x16 x17 x18 x19 x20 x21 x22 x23 x24 x25 x26 x27 x28 x29 x30 x31 x32 x33 w' → K' x0 x1 x2 x3 x4 x5 x6 x7 x8 x9 x10 x11 x12 x13 x14 x15 x16 x17 x18 x19 x20 x21 x22 x23 x24 x25 x26 x27 x28 x29 x30 x31 x32 x33 w') : c_pcp_Parse a0 w K' :=
  Calls.mono h fun e w' hh => by obtain ⟨x0, x1, x2, x3, x4, x5, x6, x7, x8, x9, x10, x11, x12, x13, x14, x15, x16, x17, x18, x19, x20, x21, x22, x23, x24, x25, x26, x27, x28, x29, x30, x31, x32, x33, he, hx⟩ := hh; exact ⟨x0, x1, x2, x3, x4, x5, x6, x7, x8, x9, x10, x11, x12, x13, x14, x15, x16, x17, x18, x19, x20, x21, x22, x23, x24, x25, x26, x27, x28, x29, x30, x31, x32, x33, he, hk _ _ _ _ _ _ _ _ _ _ _ _ _ _ _ _ _ _ _ _ _ _ _ _ _ _ _ _ _ _ _ _ _ _ _ hx⟩

/-- goosepond/pcp.Mapped -/
abbrev n_pcp_Mapped : FuncId := 44
def c_pcp_Mapped (a0 : Int) (w : World) (K : Int → Int → Int → Int → Int → Int → Int → Int → Int → Int → Int → Int → Int → Int → Int → Int → World → Prop) : Prop :=
  Calls Tryz.prog 44 ⟨[(Value.int .i64 a0)]⟩ w fun e w' => ∃ y62 : Int, ∃ y63 : Int, ∃ y64 : Int, ∃ y65 : Int, ∃ y66 : Int, ∃ y67 : Int, ∃ y68 : Int, ∃ y69 : Int, ∃ y70 : Int, ∃ y71 : Int, ∃ y72 : Int, ∃ y73 : Int, ∃ y74 : Int, ∃ y75 : Int, ∃ y76 : Int, ∃ y77 : Int, e = .returned (Value.agg ⟨[(Value.int .u8 y62), (Value.int .u8 y63), (Value.int .u8 y64), (Value.int .u8 y65), (Value.int .u8 y66), (Value.int .u8 y67), (Value.int .u8 y68), (Value.int .u8 y69), (Value.int .u8 y70), (Value.int .u8 y71), (Value.int .u8 y72), (Value.int .u8 y73), (Value.int .u8 y74), (Value.int .u8 y75), (Value.int .u8 y76), (Value.int .u8 y77)]⟩) ∧ K y62 y63 y64 y65 y66 y67 y68 y69 y70 y71 y72 y73 y74 y75 y76 y77 w'
theorem cm_pcp_Mapped {a0 w K K'} (h : c_pcp_Mapped a0 w K) (hk : ∀ x0 x1 x2 x3 x4 x5 x6 x7 x8 x9 x10 x11 x12 x13 x14 x15 w', K x0 x1 x2 x3 x4 x5 x6 x7 x8 x9 x10 x11 x12 x13 x14 x15 w' → K' x0 x1 x2 x3 x4 x5 x6 x7 x8 x9 x10 x11 x12 x13 x14 x15 w') : c_pcp_Mapped a0 w K' :=
  Calls.mono h fun e w' hh => by obtain ⟨x0, x1, x2, x3, x4, x5, x6, x7, x8, x9, x10, x11, x12, x13, x14, x15, he, hx⟩ := hh; exact ⟨x0, x1, x2, x3, x4, x5, x6, x7, x8, x9, x10, x11, x12, x13, x14, x15, he, hk _ _ _ _ _ _ _ _ _ _ _ _ _ _ _ _ _ hx⟩

/-- (*goosepond/pcpd.Server).ask -/
abbrev n_pcpd_Server_ask : FuncId := 45
def c_pcpd_Server_ask (a0 : Option Addr) (a1_0 : Int) (a1_1 : Int) (a1_2 : Int) (a1_3 : Int) (a2_0 : Int) (a2_1 : Int) (a2_2 : Int) (a2_3 : Int) (a2_4 : Int) (a2_5 : Int) (a2_6 : Int) (a2_7 : Int) (a2_8 : Int) (a2_9 : Int) (a2_10 : Int) (a2_11 : Int) (a2_12 : Int) (a2_13 : Int) (a2_14 : Int) (a2_15 : Int) (a2_16 : Int) (a2_17 : Int) (a2_18 : Int) (a2_19 : Int) (a2_20 : Int) (a2_21 : Int) (a2_22 : Int) (a2_23 : Int) (a2_24 : Int) (a2_25 : Int) (a2_26 : Int) (a2_27 : Int) (a2_28 : Int) (a2_29 : Int) (a2_30 : Int) (a2_31 : Int) (a2_32 : Int) (w : World) (K : Int → Int → Int → Int → Int → Int → Int → Int → Int → Int → Int → Int → Int → Int → Int → Int → Int → Int → Int → Int → Int → Int → Int → Int → Int → Int → Int → Int → Int → Int → Int → Int → Int → Int → World → Prop) : Prop :=
  Calls Tryz.prog 45 ⟨[(Value.pointer a0), (Value.agg ⟨[(Value.int .i64 a1_0), (Value.int .i64 a1_1), (Value.int .i64 a1_2), (Value.int .i64 a1_3)]⟩), (Value.agg ⟨((Value.int .i64 a2_0) :: (Value.int .u8 a2_1) :: (Value.int .u8 a2_2) :: (Value.int .u8 a2_3) :: (Value.int .u8 a2_4) :: (Value.int .u8 a2_5) :: (Value.int .u8 a2_6) :: (Value.int .u8 a2_7) :: (Value.int .u8 a2_8) :: (Value.int .u8 a2_9) :: (Value.int .u8 a2_10) :: (Value.int .u8 a2_11) :: (Value.int .u8 a2_12) :: (Value.int .u8 a2_13) :: (Value.int .u8 a2_14) :: (Value.int .u8 a2_15) :: (Value.int .u8 a2_16) :: (Value.int .u8 a2_17) :: (Value.int .u8 a2_18) :: (Value.int .u8 a2_19) :: (Value.int .u8 a2_20) :: (Value.int .u8 a2_21) :: (Value.int .u8 a2_22) :: (Value.int .u8 a2_23) :: (Value.int .u8 a2_24) :: (Value.int .u8 a2_25) :: (Value.int .u8 a2_26) :: (Value.int .u8 a2_27) :: (Value.int .u8 a2_28) :: (Value.int .i64 a2_29) :: (Value.int .i64 a2_30) :: (Value.int .i64 a2_31) :: (Value.int .i64 a2_32) :: [])⟩)]⟩ w fun e w' => ∃ y378 : Int, ∃ y379 : Int, ∃ y380 : Int, ∃ y381 : Int, ∃ y382 : Int, ∃ y383 : Int, ∃ y384 : Int, ∃ y385 : Int, ∃ y386 : Int, ∃ y387 : Int, ∃ y388 : Int, ∃ y389 : Int, ∃ y390 : Int, ∃ y391 : Int, ∃ y392 : Int, ∃ y393 : Int, ∃ y394 : Int, ∃ y395 : Int, ∃ y396 : Int, ∃ y397 : Int, ∃ y398 : Int, ∃ y399 : Int, ∃ y400 : Int, ∃ y401 : Int, ∃ y402 : Int, ∃ y403 : Int, ∃ y404 : Int, ∃ y405 : Int, ∃ y406 : Int, ∃ y407 : Int, ∃ y408 : Int, ∃ y409 : Int, ∃ y410 : Int, ∃ y411 : Int, e = .returned (Value.tuple ⟨[(Value.int .i64 y378), (Value.agg ⟨((Value.int .i64 y379) :: (Value.int .u8 y380) :: (Value.int .u8 y381) :: (Value.int .u8 y382) :: (Value.int .u8 y383) :: (Value.int .u8 y384) :: (Value.int .u8 y385) :: (Value.int .u8 y386) :: (Value.int .u8 y387) :: (Value.int .u8 y388) :: (Value.int .u8 y389) :: (Value.int .u8 y390) :: (Value.int .u8 y391) :: (Value.int .u8 y392) :: (Value.int .u8 y393) :: (Value.int .u8 y394) :: (Value.int .u8 y395) :: (Value.int .u8 y396) :: (Value.int .u8 y397) :: (Value.int .u8 y398) :: (Value.int .u8 y399) :: (Value.int .u8 y400) :: (Value.int .u8 y401) :: (Value.int .u8 y402) :: (Value.int .u8 y403) :: (Value.int .u8 y404) :: (Value.int .u8 y405) :: (Value.int .u8 y406) :: (Value.int .u8 y407) :: (Value.int .i64 y408) :: (Value.int .i64 y409) :: (Value.int .i64 y410) :: (Value.int .i64 y411) :: [])⟩)]⟩) ∧ K y378 y379 y380 y381 y382 y383 y384 y385 y386 y387 y388 y389 y390 y391 y392 y393 y394 y395 y396 y397 y398 y399 y400 y401 y402 y403 y404 y405 y406 y407 y408 y409 y410 y411 w'
theorem cm_pcpd_Server_ask {a0 a1_0 a1_1 a1_2 a1_3 a2_0 a2_1 a2_2 a2_3 a2_4 a2_5 a2_6 a2_7 a2_8 a2_9 a2_10 a2_11 a2_12 a2_13 a2_14 a2_15 a2_16 a2_17 a2_18 a2_19 a2_20 a2_21 a2_22 a2_23 a2_24 a2_25 a2_26 a2_27 a2_28 a2_29 a2_30 a2_31 a2_32 w K K'} (h : c_pcpd_Server_ask a0 a1_0 a1_1 a1_2 a1_3 a2_0 a2_1 a2_2 a2_3 a2_4 a2_5 a2_6 a2_7 a2_8 a2_9 a2_10 a2_11 a2_12 a2_13 a2_14 a2_15 a2_16 a2_17 a2_18 a2_19 a2_20 a2_21 a2_22 a2_23 a2_24 a2_25 a2_26 a2_27 a2_28 a2_29 a2_30 a2_31 a2_32 w K) (hk : ∀ x0 x1 x2 x3 x4 x5 x6 x7 x8 x9 x10 x11 x12 x13 x14 x15 x16 x17 x18 x19 x20 x21 x22 x23 x24 x25 x26 x27 x28 x29 x30 x31 x32 x33 w', K x0 x1 x2 x3 x4 x5 x6 x7 x8 x9 x10 x11 x12 x13 x14 x15 x16 x17 x18 x19 x20 x21 x22 x23 x24 x25 x26 x27 x28 x29 x30 x31 x32 x33 w' → K' x0 x1 x2 x3 x4 x5 x6 x7 x8 x9 x10 x11 x12 x13 x14 x15 x16 x17 x18 x19 x20 x21 x22 x23 x24 x25 x26 x27 x28 x29 x30 x31 x32 x33 w') : c_pcpd_Server_ask a0 a1_0 a1_1 a1_2 a1_3 a2_0 a2_1 a2_2 a2_3 a2_4 a2_5 a2_6 a2_7 a2_8 a2_9 a2_10 a2_11 a2_12 a2_13 a2_14 a2_15 a2_16 a2_17 a2_18 a2_19 a2_20 a2_21 a2_22 a2_23 a2_24 a2_25 a2_26 a2_27 a2_28 a2_29 a2_30 a2_31 a2_32 w K' :=
  Calls.mono h fun e w' hh => by obtain ⟨x0, x1, x2, x3, x4, x5, x6, x7, x8, x9, x10, x11, x12, x13, x14, x15, x16, x17, x18, x19, x20, x21, x22, x23, x24, x25, x26, x27, x28, x29, x30, x31, x32, x33, he, hx⟩ := hh; exact ⟨x0, x1, x2, x3, x4, x5, x6, x7, x8, x9, x10, x11, x12, x13, x14, x15, x16, x17, x18, x19, x20, x21, x22, x23, x24, x25, x26, x27, x28, x29, x30, x31, x32, x33, he, hk _ _ _ _ _ _ _ _ _ _ _ _ _ _ _ _ _ _ _ _ _ _ _ _ _ _ _ _ _ _ _ _ _ _ _ hx⟩

/-- goosepond/pcp.Answer -/
abbrev n_pcp_Answer : FuncId := 46
def c_pcp_Answer (a0_0 : Int) (a0_1 : Int) (a0_2 : Int) (a0_3 : Int) (a0_4 : Int) (a0_5 : Int) (a0_6 : Int) (a0_7 : Int) (a0_8 : Int) (a0_9 : Int) (a0_10 : Int) (a0_11 : Int) (a0_12 : Int) (a0_13 : Int) (a0_14 : Int) (a0_15 : Int) (a0_16 : Int) (a0_17 : Int) (a0_18 : Int) (a0_19 : Int) (a0_20 : Int) (a0_21 : Int) (a0_22 : Int) (a0_23 : Int) (a0_24 : Int) (a0_25 : Int) (a0_26 : Int) (a0_27 : Int) (a0_28 : Int) (a0_29 : Int) (a0_30 : Int) (a0_31 : Int) (a0_32 : Int) (a0_33 : Int) (a0_34 : Int) (w : World) (K : SliceV → Int → World → Prop) : Prop :=
  Calls Tryz.prog 46 ⟨[(Value.agg ⟨((Value.int .i64 a0_0) :: (Value.int .i64 a0_1) :: (Value.int .i64 a0_2) :: (Value.int .u8 a0_3) :: (Value.int .u8 a0_4) :: (Value.int .u8 a0_5) :: (Value.int .u8 a0_6) :: (Value.int .u8 a0_7) :: (Value.int .u8 a0_8) :: (Value.int .u8 a0_9) :: (Value.int .u8 a0_10) :: (Value.int .u8 a0_11) :: (Value.int .u8 a0_12) :: (Value.int .u8 a0_13) :: (Value.int .u8 a0_14) :: (Value.int .u8 a0_15) :: (Value.int .u8 a0_16) :: (Value.int .u8 a0_17) :: (Value.int .u8 a0_18) :: (Value.int .u8 a0_19) :: (Value.int .u8 a0_20) :: (Value.int .u8 a0_21) :: (Value.int .u8 a0_22) :: (Value.int .u8 a0_23) :: (Value.int .u8 a0_24) :: (Value.int .u8 a0_25) :: (Value.int .u8 a0_26) :: (Value.int .u8 a0_27) :: (Value.int .u8 a0_28) :: (Value.int .u8 a0_29) :: (Value.int .u8 a0_30) :: (Value.int .i64 a0_31) :: (Value.int .i64 a0_32) :: (Value.int .i64 a0_33) :: (Value.int .i64 a0_34) :: [])⟩)]⟩ w fun e w' => ∃ y94 : SliceV, ∃ y95 : Int, e = .returned (Value.tuple ⟨[(Value.slice y94.a y94.len y94.cap), (Value.int .i64 y95)]⟩) ∧ K y94 y95 w'
theorem cm_pcp_Answer {a0_0 a0_1 a0_2 a0_3 a0_4 a0_5 a0_6 a0_7 a0_8 a0_9 a0_10 a0_11 a0_12 a0_13 a0_14 a0_15 a0_16 a0_17 a0_18 a0_19 a0_20 a0_21 a0_22 a0_23 a0_24 a0_25 a0_26 a0_27 a0_28 a0_29 a0_30 a0_31 a0_32 a0_33 a0_34 w K K'} (h : c_pcp_Answer a0_0 a0_1 a0_2 a0_3 a0_4 a0_5 a0_6 a0_7 a0_8 a0_9 a0_10 a0_11 a0_12 a0_13 a0_14 a0_15 a0_16 a0_17 a0_18 a0_19 a0_20 a0_21 a0_22 a0_23 a0_24 a0_25 a0_26 a0_27 a0_28 a0_29 a0_30 a0_31 a0_32 a0_33 a0_34 w K) (hk : ∀ x0 x1 w', K x0 x1 w' → K' x0 x1 w') : c_pcp_Answer a0_0 a0_1 a0_2 a0_3 a0_4 a0_5 a0_6 a0_7 a0_8 a0_9 a0_10 a0_11 a0_12 a0_13 a0_14 a0_15 a0_16 a0_17 a0_18 a0_19 a0_20 a0_21 a0_22 a0_23 a0_24 a0_25 a0_26 a0_27 a0_28 a0_29 a0_30 a0_31 a0_32 a0_33 a0_34 w K' :=
  Calls.mono h fun e w' hh => by obtain ⟨x0, x1, he, hx⟩ := hh; exact ⟨x0, x1, he, hk _ _ _ hx⟩

/-- goosepond/wheel.New -/
abbrev n_wheel_New : FuncId := 47
def c_wheel_New (a0 : Int) (w : World) (K : (Option Addr) → Int → World → Prop) : Prop :=
  Calls Tryz.prog 47 ⟨[(Value.int .i64 a0)]⟩ w fun e w' => ∃ y8 : Option Addr, ∃ y9 : Int, e = .returned (Value.tuple ⟨[(Value.pointer y8), (Value.int .i64 y9)]⟩) ∧ K y8 y9 w'
theorem cm_wheel_New {a0 w K K'} (h : c_wheel_New a0 w K) (hk : ∀ x0 x1 w', K x0 x1 w' → K' x0 x1 w') : c_wheel_New a0 w K' :=
  Calls.mono h fun e w' hh => by obtain ⟨x0, x1, he, hx⟩ := hh; exact ⟨x0, x1, he, hk _ _ _ hx⟩

/-- (*goosepond/napt.Engine).Now -/
abbrev n_napt_Engine_Now : FuncId := 48
def c_napt_Engine_Now (a0 : Option Addr) (w : World) (K : Int → World → Prop) : Prop :=
  Calls Tryz.prog 48 ⟨[(Value.pointer a0)]⟩ w fun e w' => ∃ y6 : Int, e = .returned (Value.int .i64 y6) ∧ K y6 w'
theorem cm_napt_Engine_Now {a0 w K K'} (h : c_napt_Engine_Now a0 w K) (hk : ∀ x0 w', K x0 w' → K' x0 w') : c_napt_Engine_Now a0 w K' :=
  Calls.mono h fun e w' hh => by obtain ⟨x0, he, hx⟩ := hh; exact ⟨x0, he, hk _ _ hx⟩

/-- (*goosepond/wheel.Wheel).Advance -/
abbrev n_wheel_Wheel_Advance : FuncId := 49
def c_wheel_Wheel_Advance (a0 : Option Addr) (a1 : Int) (w : World) (K : SliceV → World → Prop) : Prop :=
  Calls Tryz.prog 49 ⟨[(Value.pointer a0), (Value.int .i64 a1)]⟩ w fun e w' => ∃ y21 : SliceV, e = .returned (Value.slice y21.a y21.len y21.cap) ∧ K y21 w'
theorem cm_wheel_Wheel_Advance {a0 a1 w K K'} (h : c_wheel_Wheel_Advance a0 a1 w K) (hk : ∀ x0 w', K x0 w' → K' x0 w') : c_wheel_Wheel_Advance a0 a1 w K' :=
  Calls.mono h fun e w' hh => by obtain ⟨x0, he, hx⟩ := hh; exact ⟨x0, he, hk _ _ hx⟩

/-- (*goosepond/pcpd.Server).Leases$1 -/
abbrev n_pcpd_Server_Leases_1 : FuncId := 50
def c_pcpd_Server_Leases_1 (a0 : Value) (f0 : Addr) (w : World) (K : World → Prop) : Prop :=
  Calls Tryz.prog 50 ⟨[a0, (Value.pointer (some f0))]⟩ w fun e w' => e = .returned (Value.tuple ⟨[]⟩) ∧ K w'
theorem cm_pcpd_Server_Leases_1 {a0 f0 w K K'} (h : c_pcpd_Server_Leases_1 a0 f0 w K) (hk : ∀  w', K  w' → K'  w') : c_pcpd_Server_Leases_1 a0 f0 w K' :=
  Calls.mono h fun e w' hh => by obtain ⟨he, hx⟩ := hh; exact ⟨he, hk  _ hx⟩

/-- slices.SortFunc[[]*goosepond/pcpd.lease,*goosepond/pcpd.lease] -/
abbrev n_slices_SortFunc_pcpd_lease_pcpd_lease : FuncId := 51
def c_slices_SortFunc_pcpd_lease_pcpd_lease (a0 : SliceV) (a1 : Value) (w : World) (K : World → Prop) : Prop :=
  Calls Tryz.prog 51 ⟨[(Value.slice a0.a a0.len a0.cap), a1]⟩ w fun e w' => e = .returned (Value.tuple ⟨[]⟩) ∧ K w'
theorem cm_slices_SortFunc_pcpd_lease_pcpd_lease {a0 a1 w K K'} (h : c_slices_SortFunc_pcpd_lease_pcpd_lease a0 a1 w K) (hk : ∀  w', K  w' → K'  w') : c_slices_SortFunc_pcpd_lease_pcpd_lease a0 a1 w K' :=
  Calls.mono h fun e w' hh => by obtain ⟨he, hx⟩ := hh; exact ⟨he, hk  _ hx⟩

/-- goosepond/pcpd.order -/
abbrev n_pcpd_order : FuncId := 52
def c_pcpd_order (a0 : Option Addr) (a1 : Option Addr) (w : World) (K : Int → World → Prop) : Prop :=
  Calls Tryz.prog 52 ⟨[(Value.pointer a0), (Value.pointer a1)]⟩ w fun e w' => ∃ y31 : Int, e = .returned (Value.int .i64 y31) ∧ K y31 w'
theorem cm_pcpd_order {a0 a1 w K K'} (h : c_pcpd_order a0 a1 w K) (hk : ∀ x0 w', K x0 w' → K' x0 w') : c_pcpd_order a0 a1 w K' :=
  Calls.mono h fun e w' hh => by obtain ⟨x0, he, hx⟩ := hh; exact ⟨x0, he, hk _ _ hx⟩

/-- (*goosepond/wheel.Wheel).Arm -/
abbrev n_wheel_Wheel_Arm : FuncId := 53
def c_wheel_Wheel_Arm (a0 : Option Addr) (a1 : Int) (a2 : Int) (w : World) (K : Int → World → Prop) : Prop :=
  Calls Tryz.prog 53 ⟨[(Value.pointer a0), (Value.int .i64 a1), (Value.int .i64 a2)]⟩ w fun e w' => ∃ y53 : Int, e = .returned (Value.int .i64 y53) ∧ K y53 w'
theorem cm_wheel_Wheel_Arm {a0 a1 a2 w K K'} (h : c_wheel_Wheel_Arm a0 a1 a2 w K) (hk : ∀ x0 w', K x0 w' → K' x0 w') : c_wheel_Wheel_Arm a0 a1 a2 w K' :=
  Calls.mono h fun e w' hh => by obtain ⟨x0, he, hx⟩ := hh; exact ⟨x0, he, hk _ _ hx⟩

/-- (*goosepond/pcpd.Server).drop -/
abbrev n_pcpd_Server_drop : FuncId := 54
def c_pcpd_Server_drop (a0 : Option Addr) (a1 : Option Addr) (w : World) (K : World → Prop) : Prop :=
  Calls Tryz.prog 54 ⟨[(Value.pointer a0), (Value.pointer a1)]⟩ w fun e w' => e = .returned (Value.tuple ⟨[]⟩) ∧ K w'
theorem cm_pcpd_Server_drop {a0 a1 w K K'} (h : c_pcpd_Server_drop a0 a1 w K) (hk : ∀  w', K  w' → K'  w') : c_pcpd_Server_drop a0 a1 w K' :=
  Calls.mono h fun e w' hh => by obtain ⟨he, hx⟩ := hh; exact ⟨he, hk  _ hx⟩

/-- goosepond/goosepondlaw44.PcpdNobody -/
def s_law44_PcpdNobody (a0 : Int) (a1 : Int) (a2 : SliceV) (a3 : Int) (w : World) (K : Bool → World → Prop) : Prop :=
 (Al w (.cells ⟨[(Value.bool false)]⟩ 4) fun a6 w5 =>
 c_law44_awake  w5 fun r7 w8 =>
 (bif (!r7) then
 St w8 a6 (Value.bool false) fun w9 =>
 Ld .bool w9 a6 fun y10 =>
 K y10 w9
 else
 Al w8 (.cells ⟨[(Value.pointer none), (Value.pointer none), (Value.map none), (Value.map none), (Value.int .i64 0), (Value.int .i64 0), (Value.int .i64 0)]⟩ 47) fun a12 w11 =>
 c_pcpd_Server_Serve none a0 a1 a2 w11 fun r13 r14 w15 =>
 c_pcpd_Server_Serve (some a12) a0 a1 a2 w15 fun r16 r17 w18 =>
 c_pcpd_New none 1 w18 fun r19 r20 w21 =>
 c_pcpd_Server_Leases none w21 fun r22 w23 =>
 RngP Tryz.prog none [.agg [(.int .i64), (.int .i64), (.int .i64), (.int .i64)], .one (.int .i64)] r22 w23 (fun l24 x25 W26 Kb27 =>
 W26.heap[l24]? = W26.heap[l24]? ∧
 St (busyW W26 l24) a6 (Value.bool false) fun w28 =>
 Kb27 .ret w28)
 (fun w29 =>
 let J30 : World → Prop := fun w31 =>
 (w31.heap[w23.heap.size]? = some (.deferred (some [])) ∧
 Ld .bool (w31.putObj w23.heap.size (.deferred none)) a6 fun y32 =>
 K y32 (w31.putObj w23.heap.size (.deferred none)))
 (bif (r14 == 2) then
 (bif (r17 == 2) then
 (bif (r20 == 1) then
 c_pcpd_Server_Advance none a3 w29 fun r33 w34 =>
 (bif (r33 == 0) then
 c_pcpd_Server_Advance (some a12) a3 w34 fun r35 w36 =>
 (bif (r35 == 0) then
 c_pcpd_Server_Now none w36 fun r37 w38 =>
 (bif (r37 == 0) then
 c_law44_awake  w38 fun r39 w40 =>
 St w40 a6 (Value.bool r39) fun w41 =>
 J30 w41
 else
 St w38 a6 (Value.bool false) fun w42 =>
 J30 w42)
 else
 St w36 a6 (Value.bool false) fun w43 =>
 J30 w43)
 else
 St w34 a6 (Value.bool false) fun w44 =>
 J30 w44)
 else
 St w29 a6 (Value.bool false) fun w45 =>
 J30 w45)
 else
 St w29 a6 (Value.bool false) fun w46 =>
 J30 w46)
 else
 St w29 a6 (Value.bool false) fun w47 =>
 J30 w47))
 (fun w48 =>
 w48.heap[w23.heap.size]? = some (.deferred (some [])) ∧
 Ld .bool (w48.putObj w23.heap.size (.deferred none)) a6 fun y49 =>
 K y49 (w48.putObj w23.heap.size (.deferred none)))
 []))
theorem e_law44_PcpdNobody (a0 : Int) (a1 : Int) (a2 : SliceV) (a3 : Int) (w : World) (K : Bool → World → Prop) : den Tryz.prog 71 (bodyOf Tryz.f4) none (.seq .leaf (.seq (.seq .leaf (.cond (.seq .leaf .leaf) .leaf)) (.seq .leaf (.seq .leaf (.seq .leaf (.seq .leaf (.seq .leaf (.seq (.seq .leaf (.blk (.rng [.agg [(.int .i64), (.int .i64), (.int .i64), (.int .i64)], .one (.int .i64)] .leaf (.blk (.seq .leaf .leaf))))) (.seq .leaf .leaf))))))))) (argEnv 0 [(Value.int .i64 a0), (Value.int .i64 a1), (Value.slice a2.a a2.len a2.cap), (Value.int .i64 a3)]) [] w (retK Tryz.prog [.cell 8 4] [.one .bool] K) = s_law44_PcpdNobody a0 a1 a2 a3 w K := by kernel_rfl
theorem ok_law44_PcpdNobody {a0 a1 a2 a3 w K} (h : s_law44_PcpdNobody a0 a1 a2 a3 w K) : c_law44_PcpdNobody a0 a1 a2 a3 w K :=
  fn_sound pok Tryz.func4 (fn := Tryz.f4) (c := bodyOf Tryz.f4) (nt := 71) (by kernel_rfl) (by kernel_rfl) (rs := [.cell 8 4]) (by kernel_rfl) [.one .bool] K (.seq .leaf (.seq (.seq .leaf (.cond (.seq .leaf .leaf) .leaf)) (.seq .leaf (.seq .leaf (.seq .leaf (.seq .leaf (.seq .leaf (.seq (.seq .leaf (.blk (.rng [.agg [(.int .i64), (.int .i64), (.int .i64), (.int .i64)], .one (.int .i64)] .leaf (.blk (.seq .leaf .leaf))))) (.seq .leaf .leaf))))))))) [(Value.int .i64 a0), (Value.int .i64 a1), (Value.slice a2.a a2.len a2.cap), (Value.int .i64 a3)] (by kernel_rfl) w ((e_law44_PcpdNobody a0 a1 a2 a3 w K).mpr h)

/-- (*goosepond/pcpd.Server).Serve -/
def s_pcpd_Server_Serve (a0 : Option Addr) (a1 : Int) (a2 : Int) (a3 : SliceV) (w : World) (K : SliceV → Int → World → Prop) : Prop :=
 (c_pcpd_Server_ready a0 w fun r5 w6 =>
 (bif (!r5) then
 K ⟨none, 0, 0⟩ 2 w6
 else
 c_pcp_Parse a3 w6 fun r7 r8 r9 r10 r11 r12 r13 r14 r15 r16 r17 r18 r19 r20 r21 r22 r23 r24 r25 r26 r27 r28 r29 r30 r31 r32 r33 r34 r35 r36 r37 r38 r39 r40 w41 =>
 Al w41 (.cells ⟨((Value.int .i64 0) :: (Value.int .u8 0) :: (Value.int .u8 0) :: (Value.int .u8 0) :: (Value.int .u8 0) :: (Value.int .u8 0) :: (Value.int .u8 0) :: (Value.int .u8 0) :: (Value.int .u8 0) :: (Value.int .u8 0) :: (Value.int .u8 0) :: (Value.int .u8 0) :: (Value.int .u8 0) :: (Value.int .u8 0) :: (Value.int .u8 0) :: (Value.int .u8 0) :: (Value.int .u8 0) :: (Value.int .u8 0) :: (Value.int .u8 0) :: (Value.int .u8 0) :: (Value.int .u8 0) :: (Value.int .u8 0) :: (Value.int .u8 0) :: (Value.int .u8 0) :: (Value.int .u8 0) :: (Value.int .u8 0) :: (Value.int .u8 0) :: (Value.int .u8 0) :: (Value.int .u8 0) :: (Value.int .i64 0) :: (Value.int .i64 0) :: (Value.int .i64 0) :: (Value.int .i64 0) :: [])⟩ 95) fun a43 w42 =>
 StN ((Value.int .i64 r7) :: (Value.int .u8 r8) :: (Value.int .u8 r9) :: (Value.int .u8 r10) :: (Value.int .u8 r11) :: (Value.int .u8 r12) :: (Value.int .u8 r13) :: (Value.int .u8 r14) :: (Value.int .u8 r15) :: (Value.int .u8 r16) :: (Value.int .u8 r17) :: (Value.int .u8 r18) :: (Value.int .u8 r19) :: (Value.int .u8 r20) :: (Value.int .u8 r21) :: (Value.int .u8 r22) :: (Value.int .u8 r23) :: (Value.int .u8 r24) :: (Value.int .u8 r25) :: (Value.int .u8 r26) :: (Value.int .u8 r27) :: (Value.int .u8 r28) :: (Value.int .u8 r29) :: (Value.int .u8 r30) :: (Value.int .u8 r31) :: (Value.int .u8 r32) :: (Value.int .u8 r33) :: (Value.int .u8 r34) :: (Value.int .u8 r35) :: (Value.int .i64 r36) :: (Value.int .i64 r37) :: (Value.int .i64 r38) :: (Value.int .i64 r39) :: []) w42 a43 0 fun w44 =>
 (bif (r40 != 0) then
 K ⟨none, 0, 0⟩ r40 w44
 else
 let J45 : Int → World → Prop := fun j46 w47 =>
 (let J48 : World → Prop := fun w49 =>
 (∃ a50 : Addr, a0 = some a50 ∧
 Ld (.int .i64) w49.drew (a50.add 4) fun x51 =>
 Ld (.int .i64) w49.drew (a43.add 0) fun x52 =>
 Ld (.int .u8) w49.drew (a43.add 1) fun x53 =>
 Ld (.int .u8) w49.drew (a43.add 2) fun x54 =>
 Ld (.int .u8) w49.drew (a43.add 3) fun x55 =>
 Ld (.int .u8) w49.drew (a43.add 4) fun x56 =>
 Ld (.int .u8) w49.drew (a43.add 5) fun x57 =>
 Ld (.int .u8) w49.drew (a43.add 6) fun x58 =>
 Ld (.int .u8) w49.drew (a43.add 7) fun x59 =>
 Ld (.int .u8) w49.drew (a43.add 8) fun x60 =>
 Ld (.int .u8) w49.drew (a43.add 9) fun x61 =>
 Ld (.int .u8) w49.drew (a43.add 10) fun x62 =>
 Ld (.int .u8) w49.drew (a43.add 11) fun x63 =>
 Ld (.int .u8) w49.drew (a43.add 12) fun x64 =>
 Ld (.int .u8) w49.drew (a43.add 13) fun x65 =>
 Ld (.int .u8) w49.drew (a43.add 14) fun x66 =>
 Ld (.int .u8) w49.drew (a43.add 15) fun x67 =>
 Ld (.int .u8) w49.drew (a43.add 16) fun x68 =>
 Ld (.int .u8) w49.drew (a43.add 17) fun x69 =>
 Ld (.int .u8) w49.drew (a43.add 18) fun x70 =>
 Ld (.int .u8) w49.drew (a43.add 19) fun x71 =>
 Ld (.int .u8) w49.drew (a43.add 20) fun x72 =>
 Ld (.int .u8) w49.drew (a43.add 21) fun x73 =>
 Ld (.int .u8) w49.drew (a43.add 22) fun x74 =>
 Ld (.int .u8) w49.drew (a43.add 23) fun x75 =>
 Ld (.int .u8) w49.drew (a43.add 24) fun x76 =>
 Ld (.int .u8) w49.drew (a43.add 25) fun x77 =>
 Ld (.int .u8) w49.drew (a43.add 26) fun x78 =>
 Ld (.int .u8) w49.drew (a43.add 27) fun x79 =>
 Ld (.int .u8) w49.drew (a43.add 28) fun x80 =>
 Ld (.int .i64) w49.drew (a43.add 29) fun x81 =>
 Ld (.int .i64) w49.drew (a43.add 30) fun x82 =>
 Ld (.int .i64) w49.drew (a43.add 31) fun x83 =>
 Ld (.int .i64) w49.drew (a43.add 32) fun x84 =>
 c_pcp_Answer j46 (andI .i64 x51 4294967295) x52 x53 x54 x55 x56 x57 x58 x59 x60 x61 x62 x63 x64 x65 x66 x67 x68 x69 x70 x71 x72 x73 x74 x75 x76 x77 x78 x79 x80 x81 x82 x83 x84 w49.drew fun r85 r86 w87 =>
 K r85 r86 w87)
 (bif (j46 != 0) then
 St w47 a43 (Value.int .i64 30) fun w88 =>
 J48 w88
 else
 J48 w47))
 Ld (.int .u8) w44.drew ((a43.add 1).add 0) fun x89 =>
 Ld (.int .u8) w44.drew ((a43.add 1).add 1) fun x90 =>
 Ld (.int .u8) w44.drew ((a43.add 1).add 2) fun x91 =>
 Ld (.int .u8) w44.drew ((a43.add 1).add 3) fun x92 =>
 Ld (.int .u8) w44.drew ((a43.add 1).add 4) fun x93 =>
 Ld (.int .u8) w44.drew ((a43.add 1).add 5) fun x94 =>
 Ld (.int .u8) w44.drew ((a43.add 1).add 6) fun x95 =>
 Ld (.int .u8) w44.drew ((a43.add 1).add 7) fun x96 =>
 Ld (.int .u8) w44.drew ((a43.add 1).add 8) fun x97 =>
 Ld (.int .u8) w44.drew ((a43.add 1).add 9) fun x98 =>
 Ld (.int .u8) w44.drew ((a43.add 1).add 10) fun x99 =>
 Ld (.int .u8) w44.drew ((a43.add 1).add 11) fun x100 =>
 Ld (.int .u8) w44.drew ((a43.add 1).add 12) fun x101 =>
 Ld (.int .u8) w44.drew ((a43.add 1).add 13) fun x102 =>
 Ld (.int .u8) w44.drew ((a43.add 1).add 14) fun x103 =>
 Ld (.int .u8) w44.drew ((a43.add 1).add 15) fun x104 =>
 c_pcp_Mapped a2 w44.drew fun r105 r106 r107 r108 r109 r110 r111 r112 r113 r114 r115 r116 r117 r118 r119 r120 w121 =>
 w121.cell? ((a43.add 1).add 0) = some (Value.int .u8 x89) ∧
 w121.cell? ((a43.add 1).add 1) = some (Value.int .u8 x90) ∧
 w121.cell? ((a43.add 1).add 2) = some (Value.int .u8 x91) ∧
 w121.cell? ((a43.add 1).add 3) = some (Value.int .u8 x92) ∧
 w121.cell? ((a43.add 1).add 4) = some (Value.int .u8 x93) ∧
 w121.cell? ((a43.add 1).add 5) = some (Value.int .u8 x94) ∧
 w121.cell? ((a43.add 1).add 6) = some (Value.int .u8 x95) ∧
 w121.cell? ((a43.add 1).add 7) = some (Value.int .u8 x96) ∧
 w121.cell? ((a43.add 1).add 8) = some (Value.int .u8 x97) ∧
 w121.cell? ((a43.add 1).add 9) = some (Value.int .u8 x98) ∧
 w121.cell? ((a43.add 1).add 10) = some (Value.int .u8 x99) ∧
 w121.cell? ((a43.add 1).add 11) = some (Value.int .u8 x100) ∧
 w121.cell? ((a43.add 1).add 12) = some (Value.int .u8 x101) ∧
 w121.cell? ((a43.add 1).add 13) = some (Value.int .u8 x102) ∧
 w121.cell? ((a43.add 1).add 14) = some (Value.int .u8 x103) ∧
 w121.cell? ((a43.add 1).add 15) = some (Value.int .u8 x104) ∧
 (bif ((x89 == r105) && ((x90 == r106) && ((x91 == r107) && ((x92 == r108) && ((x93 == r109) && ((x94 == r110) && ((x95 == r111) && ((x96 == r112) && ((x97 == r113) && ((x98 == r114) && ((x99 == r115) && ((x100 == r116) && ((x101 == r117) && ((x102 == r118) && ((x103 == r119) && ((x104 == r120) && true)))))))))))))))) then
 Ld (.int .i64) w121 (a43.add 29) fun x122 =>
 Ld (.int .i64) w121 (a43.add 30) fun x123 =>
 Ld (.int .i64) w121 (a43.add 0) fun x124 =>
 Ld (.int .u8) w121 (a43.add 1) fun x125 =>
 Ld (.int .u8) w121 (a43.add 2) fun x126 =>
 Ld (.int .u8) w121 (a43.add 3) fun x127 =>
 Ld (.int .u8) w121 (a43.add 4) fun x128 =>
 Ld (.int .u8) w121 (a43.add 5) fun x129 =>
 Ld (.int .u8) w121 (a43.add 6) fun x130 =>
 Ld (.int .u8) w121 (a43.add 7) fun x131 =>
 Ld (.int .u8) w121 (a43.add 8) fun x132 =>
 Ld (.int .u8) w121 (a43.add 9) fun x133 =>
 Ld (.int .u8) w121 (a43.add 10) fun x134 =>
 Ld (.int .u8) w121 (a43.add 11) fun x135 =>
 Ld (.int .u8) w121 (a43.add 12) fun x136 =>
 Ld (.int .u8) w121 (a43.add 13) fun x137 =>
 Ld (.int .u8) w121 (a43.add 14) fun x138 =>
 Ld (.int .u8) w121 (a43.add 15) fun x139 =>
 Ld (.int .u8) w121 (a43.add 16) fun x140 =>
 Ld (.int .u8) w121 (a43.add 17) fun x141 =>
 Ld (.int .u8) w121 (a43.add 18) fun x142 =>
 Ld (.int .u8) w121 (a43.add 19) fun x143 =>
 Ld (.int .u8) w121 (a43.add 20) fun x144 =>
 Ld (.int .u8) w121 (a43.add 21) fun x145 =>
 Ld (.int .u8) w121 (a43.add 22) fun x146 =>
 Ld (.int .u8) w121 (a43.add 23) fun x147 =>
 Ld (.int .u8) w121 (a43.add 24) fun x148 =>
 Ld (.int .u8) w121 (a43.add 25) fun x149 =>
 Ld (.int .u8) w121 (a43.add 26) fun x150 =>
 Ld (.int .u8) w121 (a43.add 27) fun x151 =>
 Ld (.int .u8) w121 (a43.add 28) fun x152 =>
 Ld (.int .i64) w121 (a43.add 29) fun x153 =>
 Ld (.int .i64) w121 (a43.add 30) fun x154 =>
 Ld (.int .i64) w121 (a43.add 31) fun x155 =>
 Ld (.int .i64) w121 (a43.add 32) fun x156 =>
 c_pcpd_Server_ask a0 a1 x122 a2 x123 x124 x125 x126 x127 x128 x129 x130 x131 x132 x133 x134 x135 x136 x137 x138 x139 x140 x141 x142 x143 x144 x145 x146 x147 x148 x149 x150 x151 x152 x153 x154 x155 x156 w121 fun r157 r158 r159 r160 r161 r162 r163 r164 r165 r166 r167 r168 r169 r170 r171 r172 r173 r174 r175 r176 r177 r178 r179 r180 r181 r182 r183 r184 r185 r186 r187 r188 r189 r190 w191 =>
 StN ((Value.int .i64 r158) :: (Value.int .u8 r159) :: (Value.int .u8 r160) :: (Value.int .u8 r161) :: (Value.int .u8 r162) :: (Value.int .u8 r163) :: (Value.int .u8 r164) :: (Value.int .u8 r165) :: (Value.int .u8 r166) :: (Value.int .u8 r167) :: (Value.int .u8 r168) :: (Value.int .u8 r169) :: (Value.int .u8 r170) :: (Value.int .u8 r171) :: (Value.int .u8 r172) :: (Value.int .u8 r173) :: (Value.int .u8 r174) :: (Value.int .u8 r175) :: (Value.int .u8 r176) :: (Value.int .u8 r177) :: (Value.int .u8 r178) :: (Value.int .u8 r179) :: (Value.int .u8 r180) :: (Value.int .u8 r181) :: (Value.int .u8 r182) :: (Value.int .u8 r183) :: (Value.int .u8 r184) :: (Value.int .u8 r185) :: (Value.int .u8 r186) :: (Value.int .i64 r187) :: (Value.int .i64 r188) :: (Value.int .i64 r189) :: (Value.int .i64 r190) :: []) w191 a43 0 fun w192 =>
 J45 r157 w192
 else
 J45 12 w121))))
theorem e_pcpd_Server_Serve (a0 : Option Addr) (a1 : Int) (a2 : Int) (a3 : SliceV) (w : World) (K : SliceV → Int → World → Prop) : den Tryz.prog 56 (bodyOf Tryz.f12) none (.seq .leaf (.seq (.seq .leaf (.cond (.seq .leaf .leaf) .leaf)) (.seq .leaf (.seq (.seq .leaf (.cond (.seq .leaf .leaf) .leaf)) (.seq .leaf (.seq (.seq .leaf (.cond .leaf .leaf)) (.seq (.seq .leaf (.cond .leaf .leaf)) (.seq .leaf .leaf)))))))) (argEnv 0 [(Value.pointer a0), (Value.int .i64 a1), (Value.int .i64 a2), (Value.slice a3.a a3.len a3.cap)]) [] w (retK Tryz.prog [.tmp 8, .tmp 9] [.one .slice, .one (.int .i64)] K) = s_pcpd_Server_Serve a0 a1 a2 a3 w K := by kernel_rfl
theorem ok_pcpd_Server_Serve {a0 a1 a2 a3 w K} (h : s_pcpd_Server_Serve a0 a1 a2 a3 w K) : c_pcpd_Server_Serve a0 a1 a2 a3 w K :=
  fn_sound pok Tryz.func12 (fn := Tryz.f12) (c := bodyOf Tryz.f12) (nt := 56) (by kernel_rfl) (by kernel_rfl) (rs := [.tmp 8, .tmp 9]) (by kernel_rfl) [.one .slice, .one (.int .i64)] K (.seq .leaf (.seq (.seq .leaf (.cond (.seq .leaf .leaf) .leaf)) (.seq .leaf (.seq (.seq .leaf (.cond (.seq .leaf .leaf) .leaf)) (.seq .leaf (.seq (.seq .leaf (.cond .leaf .leaf)) (.seq (.seq .leaf (.cond .leaf .leaf)) (.seq .leaf .leaf)))))))) [(Value.pointer a0), (Value.int .i64 a1), (Value.int .i64 a2), (Value.slice a3.a a3.len a3.cap)] (by kernel_rfl) w ((e_pcpd_Server_Serve a0 a1 a2 a3 w K).mpr h)

/-- goosepond/pcpd.New -/
def s_pcpd_New (a0 : Option Addr) (a1 : Int) (w : World) (K : (Option Addr) → Int → World → Prop) : Prop :=
 (let J3 : Bool → Prop := fun j4 =>
 ((bif j4 then
 K none 1 w
 else
 c_wheel_New a1 w fun r5 r6 w7 =>
 (bif (r6 != 0) then
 K none r6 w7
 else
 c_napt_Engine_Now a0 w7 fun r8 w9 =>
 Al w9 (.cells ⟨[(Value.pointer a0), (Value.pointer r5), (Value.map none), (Value.map none), (Value.int .i64 r8), (Value.int .i64 0), (Value.int .i64 a1)]⟩ 47) fun a11 w10 =>
 Al w10 (.map #[] 0) fun a13 w12 =>
 Al w12 (.map #[] 0) fun a15 w14 =>
 ∃ a16 : Addr, (some a11) = some a16 ∧
 St w14 (a16.add 2) (Value.map (some w10.heap.size)) fun w17 =>
 ∃ a18 : Addr, (some a11) = some a18 ∧
 St w17 (a18.add 3) (Value.map (some w12.heap.size)) fun w19 =>
 ∃ a20 : Addr, (some a11) = some a20 ∧
 Ld (.int .i64) w19 (a20.add 4) fun x21 =>
 c_wheel_Wheel_Advance r5 x21 w19 fun r22 w23 =>
 K (some a11) 0 w23)))
 (bif (Option.isNone a0) then
 J3 true
 else
 (bif (decide (a1 < 1)) then
 J3 true
 else
 J3 (decide (a1 > 4096)))))
theorem e_pcpd_New (a0 : Option Addr) (a1 : Int) (w : World) (K : (Option Addr) → Int → World → Prop) : den Tryz.prog 49 (bodyOf Tryz.f13) none (.seq .leaf (.seq (.seq .leaf (.cond (.seq .leaf .leaf) .leaf)) (.seq .leaf (.seq (.seq .leaf (.cond (.seq .leaf .leaf) .leaf)) (.seq .leaf (.seq .leaf (.seq .leaf (.seq .leaf .leaf)))))))) (argEnv 0 [(Value.pointer a0), (Value.int .i64 a1)]) [] w (retK Tryz.prog [.tmp 4, .tmp 5] [.one .ptr, .one (.int .i64)] K) = s_pcpd_New a0 a1 w K := by kernel_rfl
theorem ok_pcpd_New {a0 a1 w K} (h : s_pcpd_New a0 a1 w K) : c_pcpd_New a0 a1 w K :=
  fn_sound pok Tryz.func13 (fn := Tryz.f13) (c := bodyOf Tryz.f13) (nt := 49) (by kernel_rfl) (by kernel_rfl) (rs := [.tmp 4, .tmp 5]) (by kernel_rfl) [.one .ptr, .one (.int .i64)] K (.seq .leaf (.seq (.seq .leaf (.cond (.seq .leaf .leaf) .leaf)) (.seq .leaf (.seq (.seq .leaf (.cond (.seq .leaf .leaf) .leaf)) (.seq .leaf (.seq .leaf (.seq .leaf (.seq .leaf .leaf)))))))) [(Value.pointer a0), (Value.int .i64 a1)] (by kernel_rfl) w ((e_pcpd_New a0 a1 w K).mpr h)

/-- (*goosepond/pcpd.Server).Leases -/
def s_pcpd_Server_Leases (a0 : Option Addr) (w : World) (K : Value → World → Prop) : Prop :=
 (isOne (Value.pointer a0) = true ∧
 Al w (.cells ⟨[(Value.pointer a0)]⟩ 41) fun a3 w2 =>
 K (Value.func (.func 50) #[] #[(Value.pointer (some a3))]) w2)
theorem e_pcpd_Server_Leases (a0 : Option Addr) (w : World) (K : Value → World → Prop) : den Tryz.prog 4 (bodyOf Tryz.f14) none (.seq .leaf (.seq .leaf .leaf)) (argEnv 0 [(Value.pointer a0)]) [] w (retK Tryz.prog [.tmp 2] [.one .any] K) = s_pcpd_Server_Leases a0 w K := by kernel_rfl
theorem ok_pcpd_Server_Leases {a0 w K} (h : s_pcpd_Server_Leases a0 w K) : c_pcpd_Server_Leases a0 w K :=
  fn_sound pok Tryz.func14 (fn := Tryz.f14) (c := bodyOf Tryz.f14) (nt := 4) (by kernel_rfl) (by kernel_rfl) (rs := [.tmp 2]) (by kernel_rfl) [.one .any] K (.seq .leaf (.seq .leaf .leaf)) [(Value.pointer a0)] (by kernel_rfl) w ((e_pcpd_Server_Leases a0 w K).mpr h)

/-- (*goosepond/pcpd.Server).Advance -/
def s_pcpd_Server_Advance (a0 : Option Addr) (a1 : Int) (w : World) (K : Int → World → Prop) : Prop :=
 (c_pcpd_Server_ready a0 w fun r3 w4 =>
 (bif (!r3) then
 K 0 w4
 else
 ∃ a5 : Addr, a0 = some a5 ∧
 Ld (.int .i64) w4 (a5.add 4) fun x6 =>
 ∃ a7 : Addr, a0 = some a7 ∧
 St w4 (a7.add 4) (Value.int .i64 (if (if (1099511627776 : Int) < a1 then 1099511627776 else a1) > x6 then (if (1099511627776 : Int) < a1 then 1099511627776 else a1) else x6)) fun w8 =>
 ∃ a9 : Addr, a0 = some a9 ∧
 Ld .ptr w8.drew (a9.add 1) fun x10 =>
 ∃ a11 : Addr, a0 = some a11 ∧
 Ld (.int .i64) w8.drew (a11.add 4) fun x12 =>
 c_wheel_Wheel_Advance x10 x12 w8.drew fun r13 w14 =>
 LoopP (S := Int × Int × Unit) (fun s15 w16 next17 =>
 (bif (decide (s15.2.1 < (r13.len : Int))) then
 let J18 : Int → World → Prop := fun j19 w20 =>
 (next17 (j19, (IntKind.i64.wrap (s15.2.1 + 1)), ()) w20)
 AtIx r13 1 s15.2.1 fun a21 =>
 Ld (.int .i64) w16 a21 fun x22 =>
 ∃ a23 : Addr, a0 = some a23 ∧
 Ld .map w16 (a23.add 3) fun x24 =>
 MapGet Tryz.prog 3 .ptr x24 (Value.int .i64 x22) (Value.pointer none) w16 fun x25 =>
 ∃ a26 : Addr, x25 = some a26 ∧
 Ld (.int .i64) w16.drew (a26.add 7) fun x27 =>
 ∃ a28 : Addr, a0 = some a28 ∧
 Ld (.int .i64) w16.drew (a28.add 4) fun x29 =>
 (bif (decide (x27 > x29)) then
 ∃ a30 : Addr, a0 = some a30 ∧
 Ld .ptr w16.drew (a30.add 1) fun x31 =>
 c_wheel_Wheel_Arm x31 x22 1099511627776 w16.drew fun r32 w33 =>
 J18 s15.1 w33
 else
 c_pcpd_Server_drop a0 x25 w16.drew fun w34 =>
 J18 (IntKind.i64.wrap (s15.1 + 1)) w34)
 else
 K s15.1 w16)) (0, 0, ()) w14))
theorem e_pcpd_Server_Advance (a0 : Option Addr) (a1 : Int) (w : World) (K : Int → World → Prop) : den Tryz.prog 64 (bodyOf Tryz.f15) none (.seq .leaf (.seq (.seq .leaf (.cond (.seq .leaf .leaf) .leaf)) (.seq .leaf (.seq .leaf (.seq (.seq .leaf (.blk (.loop [(5, (.int .i64)), (32, (.int .i64))] (.seq .leaf (.seq (.cond .leaf .leaf) (.seq (.blk (.seq .leaf (.seq .leaf (.seq (.seq .leaf (.cond (.seq .leaf .leaf) .leaf)) (.seq .leaf .leaf))))) .leaf)))))) (.seq .leaf .leaf)))))) (argEnv 0 [(Value.pointer a0), (Value.int .i64 a1)]) [] w (retK Tryz.prog [.tmp 4] [.one (.int .i64)] K) = s_pcpd_Server_Advance a0 a1 w K := by kernel_rfl
theorem ok_pcpd_Server_Advance {a0 a1 w K} (h : s_pcpd_Server_Advance a0 a1 w K) : c_pcpd_Server_Advance a0 a1 w K :=
  fn_sound pok Tryz.func15 (fn := Tryz.f15) (c := bodyOf Tryz.f15) (nt := 64) (by kernel_rfl) (by kernel_rfl) (rs := [.tmp 4]) (by kernel_rfl) [.one (.int .i64)] K (.seq .leaf (.seq (.seq .leaf (.cond (.seq .leaf .leaf) .leaf)) (.seq .leaf (.seq .leaf (.seq (.seq .leaf (.blk (.loop [(5, (.int .i64)), (32, (.int .i64))] (.seq .leaf (.seq (.cond .leaf .leaf) (.seq (.blk (.seq .leaf (.seq .leaf (.seq (.seq .leaf (.cond (.seq .leaf .leaf) .leaf)) (.seq .leaf .leaf))))) .leaf)))))) (.seq .leaf .leaf)))))) [(Value.pointer a0), (Value.int .i64 a1)] (by kernel_rfl) w ((e_pcpd_Server_Advance a0 a1 w K).mpr h)

/-- (*goosepond/pcpd.Server).Now -/
def s_pcpd_Server_Now (a0 : Option Addr) (w : World) (K : Int → World → Prop) : Prop :=
 (c_pcpd_Server_ready a0 w fun r2 w3 =>
 (bif (!r2) then
 K 0 w3
 else
 ∃ a4 : Addr, a0 = some a4 ∧
 Ld (.int .i64) w3 (a4.add 4) fun x5 =>
 K x5 w3))
theorem e_pcpd_Server_Now (a0 : Option Addr) (w : World) (K : Int → World → Prop) : den Tryz.prog 10 (bodyOf Tryz.f16) none (.seq .leaf (.seq (.seq .leaf (.cond (.seq .leaf .leaf) .leaf)) (.seq .leaf .leaf))) (argEnv 0 [(Value.pointer a0)]) [] w (retK Tryz.prog [.tmp 2] [.one (.int .i64)] K) = s_pcpd_Server_Now a0 w K := by kernel_rfl
theorem ok_pcpd_Server_Now {a0 w K} (h : s_pcpd_Server_Now a0 w K) : c_pcpd_Server_Now a0 w K :=
  fn_sound pok Tryz.func16 (fn := Tryz.f16) (c := bodyOf Tryz.f16) (nt := 10) (by kernel_rfl) (by kernel_rfl) (rs := [.tmp 2]) (by kernel_rfl) [.one (.int .i64)] K (.seq .leaf (.seq (.seq .leaf (.cond (.seq .leaf .leaf) .leaf)) (.seq .leaf .leaf))) [(Value.pointer a0)] (by kernel_rfl) w ((e_pcpd_Server_Now a0 w K).mpr h)

/-- (*goosepond/pcpd.Server).ready -/
def s_pcpd_Server_ready (a0 : Option Addr) (w : World) (K : Bool → World → Prop) : Prop :=
 (let J2 : Bool → Prop := fun j3 =>
 (K j3 w)
 (bif (!(Option.isNone a0)) then
 ∃ a4 : Addr, a0 = some a4 ∧
 Ld .ptr w a4 fun x5 =>
 J2 (!(Option.isNone x5))
 else
 J2 false))
theorem e_pcpd_Server_ready (a0 : Option Addr) (w : World) (K : Bool → World → Prop) : den Tryz.prog 12 (bodyOf Tryz.f42) none (.seq .leaf (.seq .leaf .leaf)) (argEnv 0 [(Value.pointer a0)]) [] w (retK Tryz.prog [.tmp 2] [.one .bool] K) = s_pcpd_Server_ready a0 w K := by kernel_rfl
theorem ok_pcpd_Server_ready {a0 w K} (h : s_pcpd_Server_ready a0 w K) : c_pcpd_Server_ready a0 w K :=
  fn_sound pok Tryz.func42 (fn := Tryz.f42) (c := bodyOf Tryz.f42) (nt := 12) (by kernel_rfl) (by kernel_rfl) (rs := [.tmp 2]) (by kernel_rfl) [.one .bool] K (.seq .leaf (.seq .leaf .leaf)) [(Value.pointer a0)] (by kernel_rfl) w ((e_pcpd_Server_ready a0 w K).mpr h)

/-- (*goosepond/pcpd.Server).Leases$1 -/
def s_pcpd_Server_Leases_1 (a0 : Value) (f0 : Addr) (w : World) (K : World → Prop) : Prop :=
 (Ld .ptr w f0 fun x2 =>
 c_pcpd_Server_ready x2 w fun r3 w4 =>
 (bif (!r3) then
 K w4
 else
 Ld .ptr w4 f0 fun x5 =>
 ∃ a6 : Addr, x5 = some a6 ∧
 Ld .map w4 (a6.add 2) fun x7 =>
 RngMap x7 w4 fun a8 w9 =>
 LoopP (S := SliceV × Unit) (fun s10 w11 next12 =>
 a8 = ⟨a8.block, 0, none⟩ ∧
 NextM a8.block w11 (fun w13 =>
 c_slices_SortFunc_pcpd_lease_pcpd_lease s10.1 (Value.func (.func 52) #[] #[]) w13 fun w17 =>
 LoopP (S := Int × Unit) (fun s18 w19 next20 =>
 (bif (decide (s18.1 < (s10.1.len : Int))) then
 AtIx s10.1 1 s18.1 fun a21 =>
 Ld .ptr w19 a21 fun x22 =>
 ∃ a23 : Addr, x22 = some a23 ∧
 Ld (.int .i64) w19.drew (a23.add 0) fun x24 =>
 Ld (.int .i64) w19.drew (a23.add 1) fun x25 =>
 Ld (.int .i64) w19.drew (a23.add 2) fun x26 =>
 Ld (.int .i64) w19.drew (a23.add 3) fun x27 =>
 ∃ a28 : Addr, x22 = some a28 ∧
 Ld (.int .i64) w19.drew (a28.add 7) fun x29 =>
 CallV Tryz.prog [.one .bool] a0 [(Value.agg ⟨[(Value.int .i64 x24), (Value.int .i64 x25), (Value.int .i64 x26), (Value.int .i64 x27)]⟩), (Value.int .i64 x29)] w19.drew fun r30 w31 =>
 ∃ r32 : Bool, r30 = (Value.bool r32) ∧
 (bif (!r32) then
 K w31
 else
 next20 ((IntKind.i64.wrap (s18.1 + 1)), ()) w31)
 else
 K w19)) (0, ()) w17) (fun k15 v16 w14 =>
 a8 = ⟨a8.block, 0, none⟩ ∧
 EntryM a8.block w14 fun k33 v34 =>
 Kind.dec .ptr v34 fun x35 =>
 Al w14 (.cells ⟨[(Value.pointer x35)]⟩ 118) fun a37 w36 =>
 AppSl 118 1 8 [(Value.pointer none)] s10.1 ⟨(some a37), 1, 1⟩ w36 fun s38 w39 =>
 next12 (s38, ()) w39)) (⟨none, 0, 0⟩, ()) w9))
theorem e_pcpd_Server_Leases_1 (a0 : Value) (f0 : Addr) (w : World) (K : World → Prop) : den Tryz.prog 44 (bodyOf Tryz.f50) none (.seq (.seq .leaf (.cond .leaf .leaf)) (.seq .leaf (.seq (.seq .leaf (.blk (.loop [(3, .slice)] (.seq .leaf (.seq (.cond .leaf .leaf) (.blk (.seq .leaf .leaf))))))) (.seq .leaf (.seq .leaf (.blk (.loop [(28, (.int .i64))] (.seq .leaf (.seq (.cond .leaf .leaf) (.seq (.blk (.seq .leaf (.seq .leaf (.cond .leaf .leaf)))) .leaf)))))))))) (argEnv 0 [a0, (Value.pointer (some f0))]) [] w (retK Tryz.prog [] [] K) = s_pcpd_Server_Leases_1 a0 f0 w K := by kernel_rfl
theorem ok_pcpd_Server_Leases_1 {a0 f0 w K} (h : s_pcpd_Server_Leases_1 a0 f0 w K) : c_pcpd_Server_Leases_1 a0 f0 w K :=
  fn_sound pok Tryz.func50 (fn := Tryz.f50) (c := bodyOf Tryz.f50) (nt := 44) (by kernel_rfl) (by kernel_rfl) (rs := []) (by kernel_rfl) [] K (.seq (.seq .leaf (.cond .leaf .leaf)) (.seq .leaf (.seq (.seq .leaf (.blk (.loop [(3, .slice)] (.seq .leaf (.seq (.cond .leaf .leaf) (.blk (.seq .leaf .leaf))))))) (.seq .leaf (.seq .leaf (.blk (.loop [(28, (.int .i64))] (.seq .leaf (.seq (.cond .leaf .leaf) (.seq (.blk (.seq .leaf (.seq .leaf (.cond .leaf .leaf)))) .leaf)))))))))) [a0, (Value.pointer (some f0))] (by kernel_rfl) w ((e_pcpd_Server_Leases_1 a0 f0 w K).mpr h)

end Go.Proofs
