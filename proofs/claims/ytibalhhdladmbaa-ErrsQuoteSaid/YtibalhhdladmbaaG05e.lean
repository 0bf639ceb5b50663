import Derived.Test.YtibalhhdladmbaaG05
namespace Go.Proofs
open Gp
set_option maxRecDepth 100000
set_option maxHeartbeats 4000000
/-- goosepond/goosepondlaw28.ErrsMake -/
abbrev n_law28_ErrsMake : FuncId := 7
def c_law28_ErrsMake (a0 : Int) (a1 : Int) (a2 : Int) (a3 : Int) (a4 : SliceV) (w : World) (K : Bool → World → Prop) : Prop :=
  Calls Try.prog 7 ⟨[(Value.int .i64 a0), (Value.int .i64 a1), (Value.int .i64 a2), (Value.int .i64 a3), (Value.slice a4.a a4.len a4.cap)]⟩ w fun e w' => ∃ y73 : Bool, e = .returned (Value.bool y73) ∧ K y73 w'
theorem cm_law28_ErrsMake {a0 a1 a2 a3 a4 w K K'} (h : c_law28_ErrsMake a0 a1 a2 a3 a4 w K) (hk : ∀ x0 w', K x0 w' → K' x0 w') : c_law28_ErrsMake a0 a1 a2 a3 a4 w K' :=
  Calls.mono h fun e w' hh => by obtain ⟨x0, he, hx⟩ := hh; exact ⟨x0, he, hk _ _ hx⟩

/-- goosepond/goosepondlaw28.ErrsQuote -/
abbrev n_law28_ErrsQuote : FuncId := 8
def c_law28_ErrsQuote (a0 : Int) (a1 : Int) (a2 : Int) (a3 : SliceV) (w : World) (K : Bool → World → Prop) : Prop :=
  Calls Try.prog 8 ⟨[(Value.int .u32 a0), (Value.int .u8 a1), (Value.int .u8 a2), (Value.slice a3.a a3.len a3.cap)]⟩ w fun e w' => ∃ y98 : Bool, e = .returned (Value.bool y98) ∧ K y98 w'
theorem cm_law28_ErrsQuote {a0 a1 a2 a3 w K K'} (h : c_law28_ErrsQuote a0 a1 a2 a3 w K) (hk : ∀ x0 w', K x0 w' → K' x0 w') : c_law28_ErrsQuote a0 a1 a2 a3 w K' :=
  Calls.mono h fun e w' hh => by obtain ⟨x0, he, hx⟩ := hh; exact ⟨x0, he, hk _ _ hx⟩

/-- goosepond/goosepondlaw28.ErrsOnce -/
abbrev n_law28_ErrsOnce : FuncId := 9
def c_law28_ErrsOnce (a0 : Int) (a1 : Int) (a2 : Int) (a3 : Int) (a4 : SliceV) (w : World) (K : Bool → World → Prop) : Prop :=
  Calls Try.prog 9 ⟨[(Value.int .i64 a0), (Value.int .i64 a1), (Value.int .i64 a2), (Value.int .i64 a3), (Value.slice a4.a a4.len a4.cap)]⟩ w fun e w' => ∃ y68 : Bool, e = .returned (Value.bool y68) ∧ K y68 w'
theorem cm_law28_ErrsOnce {a0 a1 a2 a3 a4 w K K'} (h : c_law28_ErrsOnce a0 a1 a2 a3 a4 w K) (hk : ∀ x0 w', K x0 w' → K' x0 w') : c_law28_ErrsOnce a0 a1 a2 a3 a4 w K' :=
  Calls.mono h fun e w' hh => by obtain ⟨x0, he, hx⟩ := hh; exact ⟨x0, he, hk _ _ hx⟩

/-- goosepond/goosepondlaw28.awake -/
abbrev n_law28_awake : FuncId := 31
def c_law28_awake  (w : World) (K : Bool → World → Prop) : Prop :=
  Calls Try.prog 31 ⟨[]⟩ w fun e w' => ∃ y28 : Bool, e = .returned (Value.bool y28) ∧ K y28 w'
theorem cm_law28_awake { w K K'} (h : c_law28_awake  w K) (hk : ∀ x0 w', K x0 w' → K' x0 w') : c_law28_awake  w K' :=
  Calls.mono h fun e w' hh => by obtain ⟨x0, he, hx⟩ := hh; exact ⟨x0, he, hk _ _ hx⟩

/-- goosepond/errs.Make -/
abbrev n_errs_Make : FuncId := 32
def c_errs_Make (a0 : Int) (a1 : Int) (a2 : Int) (a3 : Int) (a4 : SliceV) (w : World) (K : Int → Int → Int → Int → Int → Int → Int → Bool → Bool → SliceV → SliceV → Int → World → Prop) : Prop :=
  Calls Try.prog 32 ⟨[(Value.int .i64 a0), (Value.int .i64 a1), (Value.int .i64 a2), (Value.int .i64 a3), (Value.slice a4.a a4.len a4.cap)]⟩ w fun e w' => ∃ y123 : Int, ∃ y124 : Int, ∃ y125 : Int, ∃ y126 : Int, ∃ y127 : Int, ∃ y128 : Int, ∃ y129 : Int, ∃ y130 : Bool, ∃ y131 : Bool, ∃ y132 : SliceV, ∃ y133 : SliceV, ∃ y134 : Int, e = .returned (Value.tuple ⟨[(Value.agg ⟨[(Value.int .i64 y123), (Value.int .i64 y124), (Value.int .i64 y125), (Value.int .i64 y126), (Value.int .i64 y127), (Value.int .i64 y128), (Value.int .i64 y129), (Value.bool y130), (Value.bool y131), (Value.slice y132.a y132.len y132.cap), (Value.slice y133.a y133.len y133.cap)]⟩), (Value.int .i64 y134)]⟩) ∧ K y123 y124 y125 y126 y127 y128 y129 y130 y131 y132 y133 y134 w'
theorem cm_errs_Make {a0 a1 a2 a3 a4 w K K'} (h : c_errs_Make a0 a1 a2 a3 a4 w K) (hk : ∀ x0 x1 x2 x3 x4 x5 x6 x7 x8 x9 x10 x11 w', K x0 x1 x2 x3 x4 x5 x6 x7 x8 x9 x10 x11 w' → K' x0 x1 x2 x3 x4 x5 x6 x7 x8 x9 x10 x11 w') : c_errs_Make a0 a1 a2 a3 a4 w K' :=
  Calls.mono h fun e w' hh => by obtain ⟨x0, x1, x2, x3, x4, x5, x6, x7, x8, x9, x10, x11, he, hx⟩ := hh; exact ⟨x0, x1, x2, x3, x4, x5, x6, x7, x8, x9, x10, x11, he, hk _ _ _ _ _ _ _ _ _ _ _ _ _ hx⟩

/-- goosepond/goosepondref28.Make -/
abbrev n_ref28_Make : FuncId := 33
def c_ref28_Make (a0 : Int) (a1 : Int) (a2 : Int) (a3 : Int) (a4 : SliceV) (w : World) (K : Int → Int → Int → Int → Int → Int → Int → Bool → Bool → SliceV → SliceV → Int → World → Prop) : Prop :=
  Calls Try.prog 33 ⟨[(Value.int .i64 a0), (Value.int .i64 a1), (Value.int .i64 a2), (Value.int .i64 a3), (Value.slice a4.a a4.len a4.cap)]⟩ w fun e w' => ∃ y119 : Int, ∃ y120 : Int, ∃ y121 : Int, ∃ y122 : Int, ∃ y123 : Int, ∃ y124 : Int, ∃ y125 : Int, ∃ y126 : Bool, ∃ y127 : Bool, ∃ y128 : SliceV, ∃ y129 : SliceV, ∃ y130 : Int, e = .returned (Value.tuple ⟨[(Value.agg ⟨[(Value.int .i64 y119), (Value.int .i64 y120), (Value.int .i64 y121), (Value.int .i64 y122), (Value.int .i64 y123), (Value.int .i64 y124), (Value.int .i64 y125), (Value.bool y126), (Value.bool y127), (Value.slice y128.a y128.len y128.cap), (Value.slice y129.a y129.len y129.cap)]⟩), (Value.int .i64 y130)]⟩) ∧ K y119 y120 y121 y122 y123 y124 y125 y126 y127 y128 y129 y130 w'
theorem cm_ref28_Make {a0 a1 a2 a3 a4 w K K'} (h : c_ref28_Make a0 a1 a2 a3 a4 w K) (hk : ∀ x0 x1 x2 x3 x4 x5 x6 x7 x8 x9 x10 x11 w', K x0 x1 x2 x3 x4 x5 x6 x7 x8 x9 x10 x11 w' → K' x0 x1 x2 x3 x4 x5 x6 x7 x8 x9 x10 x11 w') : c_ref28_Make a0 a1 a2 a3 a4 w K' :=
  Calls.mono h fun e w' hh => by obtain ⟨x0, x1, x2, x3, x4, x5, x6, x7, x8, x9, x10, x11, he, hx⟩ := hh; exact ⟨x0, x1, x2, x3, x4, x5, x6, x7, x8, x9, x10, x11, he, hk _ _ _ _ _ _ _ _ _ _ _ _ _ hx⟩

/-- goosepond/errs.May -/
abbrev n_errs_May : FuncId := 34
def c_errs_May (a0 : SliceV) (w : World) (K : Bool → World → Prop) : Prop :=
  Calls Try.prog 34 ⟨[(Value.slice a0.a a0.len a0.cap)]⟩ w fun e w' => ∃ y18 : Bool, e = .returned (Value.bool y18) ∧ K y18 w'
theorem cm_errs_May {a0 w K K'} (h : c_errs_May a0 w K) (hk : ∀ x0 w', K x0 w' → K' x0 w') : c_errs_May a0 w K' :=
  Calls.mono h fun e w' hh => by obtain ⟨x0, he, hx⟩ := hh; exact ⟨x0, he, hk _ _ hx⟩

/-- goosepond/goosepondref28.May -/
abbrev n_ref28_May : FuncId := 35
def c_ref28_May (a0 : SliceV) (w : World) (K : Bool → World → Prop) : Prop :=
  Calls Try.prog 35 ⟨[(Value.slice a0.a a0.len a0.cap)]⟩ w fun e w' => ∃ y38 : Bool, e = .returned (Value.bool y38) ∧ K y38 w'
theorem cm_ref28_May {a0 w K K'} (h : c_ref28_May a0 w K) (hk : ∀ x0 w', K x0 w' → K' x0 w') : c_ref28_May a0 w K' :=
  Calls.mono h fun e w' hh => by obtain ⟨x0, he, hx⟩ := hh; exact ⟨x0, he, hk _ _ hx⟩

/-- goosepond/icmp.Parse -/
abbrev n_icmp_Parse : FuncId := 36
def c_icmp_Parse (a0 : SliceV) (w : World) (K : Int → Int → Int → SliceV → Int → World → Prop) : Prop :=
  Calls Try.prog 36 ⟨[(Value.slice a0.a a0.len a0.cap)]⟩ w fun e w' => ∃ y38 : Int, ∃ y39 : Int, ∃ y40 : Int, ∃ y41 : SliceV, ∃ y42 : Int, e = .returned (Value.tuple ⟨[(Value.agg ⟨[(Value.int .i64 y38), (Value.int .i64 y39), (Value.int .i64 y40), (Value.slice y41.a y41.len y41.cap)]⟩), (Value.int .i64 y42)]⟩) ∧ K y38 y39 y40 y41 y42 w'
theorem cm_icmp_Parse {a0 w K K'} (h : c_icmp_Parse a0 w K) (hk : ∀ x0 x1 x2 x3 x4 w', K x0 x1 x2 x3 x4 w' → K' x0 x1 x2 x3 x4 w') : c_icmp_Parse a0 w K' :=
  Calls.mono h fun e w' hh => by obtain ⟨x0, x1, x2, x3, x4, he, hx⟩ := hh; exact ⟨x0, x1, x2, x3, x4, he, hk _ _ _ _ _ _ hx⟩

/-- goosepond/errs.Most -/
abbrev n_errs_Most : FuncId := 37
def c_errs_Most  (w : World) (K : Int → World → Prop) : Prop :=
  Calls Try.prog 37 ⟨[]⟩ w fun e w' => ∃ y1 : Int, e = .returned (Value.int .i64 y1) ∧ K y1 w'
theorem cm_errs_Most { w K K'} (h : c_errs_Most  w K) (hk : ∀ x0 w', K x0 w' → K' x0 w') : c_errs_Most  w K' :=
  Calls.mono h fun e w' hh => by obtain ⟨x0, he, hx⟩ := hh; exact ⟨x0, he, hk _ _ hx⟩

/-- bytes.HasPrefix -/
abbrev n_bytes_HasPrefix : FuncId := 38
def c_bytes_HasPrefix (a0 : SliceV) (a1 : SliceV) (w : World) (K : Bool → World → Prop) : Prop :=
  Calls Try.prog 38 ⟨[(Value.slice a0.a a0.len a0.cap), (Value.slice a1.a a1.len a1.cap)]⟩ w fun e w' => ∃ y9 : Bool, e = .returned (Value.bool y9) ∧ K y9 w'
theorem cm_bytes_HasPrefix {a0 a1 w K K'} (h : c_bytes_HasPrefix a0 a1 w K) (hk : ∀ x0 w', K x0 w' → K' x0 w') : c_bytes_HasPrefix a0 a1 w K' :=
  Calls.mono h fun e w' hh => by obtain ⟨x0, he, hx⟩ := hh; exact ⟨x0, he, hk _ _ hx⟩

/-- goosepond/icmp.Fault -/
abbrev n_icmp_Fault : FuncId := 39
def c_icmp_Fault (a0 : Int) (w : World) (K : Bool → World → Prop) : Prop :=
  Calls Try.prog 39 ⟨[(Value.int .i64 a0)]⟩ w fun e w' => ∃ y6 : Bool, e = .returned (Value.bool y6) ∧ K y6 w'
theorem cm_icmp_Fault {a0 w K K'} (h : c_icmp_Fault a0 w K) (hk : ∀ x0 w', K x0 w' → K' x0 w') : c_icmp_Fault a0 w K' :=
  Calls.mono h fun e w' hh => by obtain ⟨x0, he, hx⟩ := hh; exact ⟨x0, he, hk _ _ hx⟩

/-- goosepond/goosepondplain.Datagram -/
abbrev n_plain_Datagram : FuncId := 58
def c_plain_Datagram (a0 : Int) (a1 : Int) (a2 : Int) (a3 : Int) (a4 : Int) (a5 : SliceV) (w : World) (K : SliceV → World → Prop) : Prop :=
  Calls Try.prog 58 ⟨[(Value.int .i64 a0), (Value.int .i64 a1), (Value.int .i64 a2), (Value.int .i64 a3), (Value.int .i64 a4), (Value.slice a5.a a5.len a5.cap)]⟩ w fun e w' => ∃ y13 : SliceV, e = .returned (Value.slice y13.a y13.len y13.cap) ∧ K y13 w'
theorem cm_plain_Datagram {a0 a1 a2 a3 a4 a5 w K K'} (h : c_plain_Datagram a0 a1 a2 a3 a4 a5 w K) (hk : ∀ x0 w', K x0 w' → K' x0 w') : c_plain_Datagram a0 a1 a2 a3 a4 a5 w K' :=
  Calls.mono h fun e w' hh => by obtain ⟨x0, he, hx⟩ := hh; exact ⟨x0, he, hk _ _ hx⟩

/-- goosepond/errs.open -/
abbrev n_errs_open : FuncId := 59
def c_errs_open (a0 : SliceV) (w : World) (K : Int → Int → Int → Int → Int → Int → Int → Bool → Bool → SliceV → SliceV → Bool → World → Prop) : Prop :=
  Calls Try.prog 59 ⟨[(Value.slice a0.a a0.len a0.cap)]⟩ w fun e w' => ∃ y92 : Int, ∃ y93 : Int, ∃ y94 : Int, ∃ y95 : Int, ∃ y96 : Int, ∃ y97 : Int, ∃ y98 : Int, ∃ y99 : Bool, ∃ y100 : Bool, ∃ y101 : SliceV, ∃ y102 : SliceV, ∃ y103 : Bool, e = .returned (Value.tuple ⟨[(Value.agg ⟨[(Value.int .i64 y92), (Value.int .i64 y93), (Value.int .i64 y94), (Value.int .i64 y95), (Value.int .i64 y96), (Value.int .i64 y97), (Value.int .i64 y98), (Value.bool y99), (Value.bool y100), (Value.slice y101.a y101.len y101.cap), (Value.slice y102.a y102.len y102.cap)]⟩), (Value.bool y103)]⟩) ∧ K y92 y93 y94 y95 y96 y97 y98 y99 y100 y101 y102 y103 w'
theorem cm_errs_open {a0 w K K'} (h : c_errs_open a0 w K) (hk : ∀ x0 x1 x2 x3 x4 x5 x6 x7 x8 x9 x10 x11 w', K x0 x1 x2 x3 x4 x5 x6 x7 x8 x9 x10 x11 w' → K' x0 x1 x2 x3 x4 x5 x6 x7 x8 x9 x10 x11 w') : c_errs_open a0 w K' :=
  Calls.mono h fun e w' hh => by obtain ⟨x0, x1, x2, x3, x4, x5, x6, x7, x8, x9, x10, x11, he, hx⟩ := hh; exact ⟨x0, x1, x2, x3, x4, x5, x6, x7, x8, x9, x10, x11, he, hk _ _ _ _ _ _ _ _ _ _ _ _ _ hx⟩

/-- goosepond/errs.quote -/
abbrev n_errs_quote : FuncId := 60
def c_errs_quote (a0 : SliceV) (a1_0 : Int) (a1_1 : Int) (a1_2 : Int) (a1_3 : Int) (a1_4 : Int) (a1_5 : Int) (a1_6 : Int) (a1_7 : Bool) (a1_8 : Bool) (a1_9 : SliceV) (a1_10 : SliceV) (w : World) (K : SliceV → World → Prop) : Prop :=
  Calls Try.prog 60 ⟨[(Value.slice a0.a a0.len a0.cap), (Value.agg ⟨[(Value.int .i64 a1_0), (Value.int .i64 a1_1), (Value.int .i64 a1_2), (Value.int .i64 a1_3), (Value.int .i64 a1_4), (Value.int .i64 a1_5), (Value.int .i64 a1_6), (Value.bool a1_7), (Value.bool a1_8), (Value.slice a1_9.a a1_9.len a1_9.cap), (Value.slice a1_10.a a1_10.len a1_10.cap)]⟩)]⟩ w fun e w' => ∃ y21 : SliceV, e = .returned (Value.slice y21.a y21.len y21.cap) ∧ K y21 w'
theorem cm_errs_quote {a0 a1_0 a1_1 a1_2 a1_3 a1_4 a1_5 a1_6 a1_7 a1_8 a1_9 a1_10 w K K'} (h : c_errs_quote a0 a1_0 a1_1 a1_2 a1_3 a1_4 a1_5 a1_6 a1_7 a1_8 a1_9 a1_10 w K) (hk : ∀ x0 w', K x0 w' → K' x0 w') : c_errs_quote a0 a1_0 a1_1 a1_2 a1_3 a1_4 a1_5 a1_6 a1_7 a1_8 a1_9 a1_10 w K' :=
  Calls.mono h fun e w' hh => by obtain ⟨x0, he, hx⟩ := hh; exact ⟨x0, he, hk _ _ hx⟩

/-- goosepond/icmp.Build -/
abbrev n_icmp_Build : FuncId := 61
def c_icmp_Build (a0_0 : Int) (a0_1 : Int) (a0_2 : Int) (a0_3 : SliceV) (w : World) (K : SliceV → Int → World → Prop) : Prop :=
  Calls Try.prog 61 ⟨[(Value.agg ⟨[(Value.int .i64 a0_0), (Value.int .i64 a0_1), (Value.int .i64 a0_2), (Value.slice a0_3.a a0_3.len a0_3.cap)]⟩)]⟩ w fun e w' => ∃ y27 : SliceV, ∃ y28 : Int, e = .returned (Value.tuple ⟨[(Value.slice y27.a y27.len y27.cap), (Value.int .i64 y28)]⟩) ∧ K y27 y28 w'
theorem cm_icmp_Build {a0_0 a0_1 a0_2 a0_3 w K K'} (h : c_icmp_Build a0_0 a0_1 a0_2 a0_3 w K) (hk : ∀ x0 x1 w', K x0 x1 w' → K' x0 x1 w') : c_icmp_Build a0_0 a0_1 a0_2 a0_3 w K' :=
  Calls.mono h fun e w' hh => by obtain ⟨x0, x1, he, hx⟩ := hh; exact ⟨x0, x1, he, hk _ _ _ hx⟩

/-- goosepond/goosepondref09.Build -/
abbrev n_ref09_Build : FuncId := 62
def c_ref09_Build (a0_0 : Int) (a0_1 : Int) (a0_2 : Int) (a0_3 : SliceV) (w : World) (K : SliceV → Int → World → Prop) : Prop :=
  Calls Try.prog 62 ⟨[(Value.agg ⟨[(Value.int .i64 a0_0), (Value.int .i64 a0_1), (Value.int .i64 a0_2), (Value.slice a0_3.a a0_3.len a0_3.cap)]⟩)]⟩ w fun e w' => ∃ y26 : SliceV, ∃ y27 : Int, e = .returned (Value.tuple ⟨[(Value.slice y26.a y26.len y26.cap), (Value.int .i64 y27)]⟩) ∧ K y26 y27 w'
theorem cm_ref09_Build {a0_0 a0_1 a0_2 a0_3 w K K'} (h : c_ref09_Build a0_0 a0_1 a0_2 a0_3 w K) (hk : ∀ x0 x1 w', K x0 x1 w' → K' x0 x1 w') : c_ref09_Build a0_0 a0_1 a0_2 a0_3 w K' :=
  Calls.mono h fun e w' hh => by obtain ⟨x0, x1, he, hx⟩ := hh; exact ⟨x0, x1, he, hk _ _ _ hx⟩

/-- goosepond/goosepondref03.Host -/
abbrev n_ref03_Host : FuncId := 63
def c_ref03_Host (a0 : Int) (w : World) (K : Bool → World → Prop) : Prop :=
  Calls Try.prog 63 ⟨[(Value.int .i64 a0)]⟩ w fun e w' => ∃ y4 : Bool, e = .returned (Value.bool y4) ∧ K y4 w'
theorem cm_ref03_Host {a0 w K K'} (h : c_ref03_Host a0 w K) (hk : ∀ x0 w', K x0 w' → K' x0 w') : c_ref03_Host a0 w K' :=
  Calls.mono h fun e w' hh => by obtain ⟨x0, he, hx⟩ := hh; exact ⟨x0, he, hk _ _ hx⟩

/-- goosepond/goosepondref09.Fault -/
abbrev n_ref09_Fault : FuncId := 64
def c_ref09_Fault (a0 : Int) (w : World) (K : Bool → World → Prop) : Prop :=
  Calls Try.prog 64 ⟨[(Value.int .i64 a0)]⟩ w fun e w' => ∃ y4 : Bool, e = .returned (Value.bool y4) ∧ K y4 w'
theorem cm_ref09_Fault {a0 w K K'} (h : c_ref09_Fault a0 w K) (hk : ∀ x0 w', K x0 w' → K' x0 w') : c_ref09_Fault a0 w K' :=
  Calls.mono h fun e w' hh => by obtain ⟨x0, he, hx⟩ := hh; exact ⟨x0, he, hk _ _ hx⟩

/-- goosepond/icmp.one -/
abbrev n_icmp_one : FuncId := 67
def c_icmp_one (a0 : Int) (a1 : SliceV) (w : World) (K : Bool → World → Prop) : Prop :=
  Calls Try.prog 67 ⟨[(Value.int .i64 a0), (Value.slice a1.a a1.len a1.cap)]⟩ w fun e w' => ∃ y5 : Bool, e = .returned (Value.bool y5) ∧ K y5 w'
theorem cm_icmp_one {a0 a1 w K K'} (h : c_icmp_one a0 a1 w K) (hk : ∀ x0 w', K x0 w' → K' x0 w') : c_icmp_one a0 a1 w K' :=
  Calls.mono h fun e w' hh => by obtain ⟨x0, he, hx⟩ := hh; exact ⟨x0, he, hk _ _ hx⟩

/-- goosepond/goosepondref07.Build -/
abbrev n_ref07_Build : FuncId := 82
def c_ref07_Build (a0 : Int) (a1 : Int) (a2_0 : Int) (a2_1 : Int) (a2_2 : Bool) (a2_3 : SliceV) (w : World) (K : SliceV → Int → World → Prop) : Prop :=
  Calls Try.prog 82 ⟨[(Value.int .i64 a0), (Value.int .i64 a1), (Value.agg ⟨[(Value.int .i64 a2_0), (Value.int .i64 a2_1), (Value.bool a2_2), (Value.slice a2_3.a a2_3.len a2_3.cap)]⟩)]⟩ w fun e w' => ∃ y33 : SliceV, ∃ y34 : Int, e = .returned (Value.tuple ⟨[(Value.slice y33.a y33.len y33.cap), (Value.int .i64 y34)]⟩) ∧ K y33 y34 w'
theorem cm_ref07_Build {a0 a1 a2_0 a2_1 a2_2 a2_3 w K K'} (h : c_ref07_Build a0 a1 a2_0 a2_1 a2_2 a2_3 w K) (hk : ∀ x0 x1 w', K x0 x1 w' → K' x0 x1 w') : c_ref07_Build a0 a1 a2_0 a2_1 a2_2 a2_3 w K' :=
  Calls.mono h fun e w' hh => by obtain ⟨x0, x1, he, hx⟩ := hh; exact ⟨x0, x1, he, hk _ _ _ hx⟩

/-- goosepond/four.Host -/
abbrev n_four_Host : FuncId := 83
def c_four_Host (a0 : Int) (w : World) (K : Bool → World → Prop) : Prop :=
  Calls Try.prog 83 ⟨[(Value.int .i64 a0)]⟩ w fun e w' => ∃ y8 : Bool, e = .returned (Value.bool y8) ∧ K y8 w'
theorem cm_four_Host {a0 w K K'} (h : c_four_Host a0 w K) (hk : ∀ x0 w', K x0 w' → K' x0 w') : c_four_Host a0 w K' :=
  Calls.mono h fun e w' hh => by obtain ⟨x0, he, hx⟩ := hh; exact ⟨x0, he, hk _ _ hx⟩

/-- goosepond/errs.plain -/
abbrev n_errs_plain : FuncId := 84
def c_errs_plain (a0_0 : Int) (a0_1 : Int) (a0_2 : Int) (a0_3 : Int) (a0_4 : Int) (a0_5 : Int) (a0_6 : Int) (a0_7 : Bool) (a0_8 : Bool) (a0_9 : SliceV) (a0_10 : SliceV) (w : World) (K : Bool → World → Prop) : Prop :=
  Calls Try.prog 84 ⟨[(Value.agg ⟨[(Value.int .i64 a0_0), (Value.int .i64 a0_1), (Value.int .i64 a0_2), (Value.int .i64 a0_3), (Value.int .i64 a0_4), (Value.int .i64 a0_5), (Value.int .i64 a0_6), (Value.bool a0_7), (Value.bool a0_8), (Value.slice a0_9.a a0_9.len a0_9.cap), (Value.slice a0_10.a a0_10.len a0_10.cap)]⟩)]⟩ w fun e w' => ∃ y14 : Bool, e = .returned (Value.bool y14) ∧ K y14 w'
theorem cm_errs_plain {a0_0 a0_1 a0_2 a0_3 a0_4 a0_5 a0_6 a0_7 a0_8 a0_9 a0_10 w K K'} (h : c_errs_plain a0_0 a0_1 a0_2 a0_3 a0_4 a0_5 a0_6 a0_7 a0_8 a0_9 a0_10 w K) (hk : ∀ x0 w', K x0 w' → K' x0 w') : c_errs_plain a0_0 a0_1 a0_2 a0_3 a0_4 a0_5 a0_6 a0_7 a0_8 a0_9 a0_10 w K' :=
  Calls.mono h fun e w' hh => by obtain ⟨x0, he, hx⟩ := hh; exact ⟨x0, he, hk _ _ hx⟩

/-- goosepond/icmp.Check -/
abbrev n_icmp_Check : FuncId := 85
def c_icmp_Check (a0_0 : Int) (a0_1 : Int) (a0_2 : Int) (a0_3 : SliceV) (w : World) (K : Int → World → Prop) : Prop :=
  Calls Try.prog 85 ⟨[(Value.agg ⟨[(Value.int .i64 a0_0), (Value.int .i64 a0_1), (Value.int .i64 a0_2), (Value.slice a0_3.a a0_3.len a0_3.cap)]⟩)]⟩ w fun e w' => ∃ y17 : Int, e = .returned (Value.int .i64 y17) ∧ K y17 w'
theorem cm_icmp_Check {a0_0 a0_1 a0_2 a0_3 w K K'} (h : c_icmp_Check a0_0 a0_1 a0_2 a0_3 w K) (hk : ∀ x0 w', K x0 w' → K' x0 w') : c_icmp_Check a0_0 a0_1 a0_2 a0_3 w K' :=
  Calls.mono h fun e w' hh => by obtain ⟨x0, he, hx⟩ := hh; exact ⟨x0, he, hk _ _ hx⟩

/-- goosepond/goosepondref09.Check -/
abbrev n_ref09_Check : FuncId := 86
def c_ref09_Check (a0_0 : Int) (a0_1 : Int) (a0_2 : Int) (a0_3 : SliceV) (w : World) (K : Int → World → Prop) : Prop :=
  Calls Try.prog 86 ⟨[(Value.agg ⟨[(Value.int .i64 a0_0), (Value.int .i64 a0_1), (Value.int .i64 a0_2), (Value.slice a0_3.a a0_3.len a0_3.cap)]⟩)]⟩ w fun e w' => ∃ y17 : Int, e = .returned (Value.int .i64 y17) ∧ K y17 w'
theorem cm_ref09_Check {a0_0 a0_1 a0_2 a0_3 w K K'} (h : c_ref09_Check a0_0 a0_1 a0_2 a0_3 w K) (hk : ∀ x0 w', K x0 w' → K' x0 w') : c_ref09_Check a0_0 a0_1 a0_2 a0_3 w K' :=
  Calls.mono h fun e w' hh => by obtain ⟨x0, he, hx⟩ := hh; exact ⟨x0, he, hk _ _ hx⟩

/-- goosepond/goosepondref09.Bytes -/
abbrev n_ref09_Bytes : FuncId := 87
def c_ref09_Bytes (a0_0 : Int) (a0_1 : Int) (a0_2 : Int) (a0_3 : SliceV) (a1 : Int) (w : World) (K : SliceV → World → Prop) : Prop :=
  Calls Try.prog 87 ⟨[(Value.agg ⟨[(Value.int .i64 a0_0), (Value.int .i64 a0_1), (Value.int .i64 a0_2), (Value.slice a0_3.a a0_3.len a0_3.cap)]⟩), (Value.int .i64 a1)]⟩ w fun e w' => ∃ y17 : SliceV, e = .returned (Value.slice y17.a y17.len y17.cap) ∧ K y17 w'
theorem cm_ref09_Bytes {a0_0 a0_1 a0_2 a0_3 a1 w K K'} (h : c_ref09_Bytes a0_0 a0_1 a0_2 a0_3 a1 w K) (hk : ∀ x0 w', K x0 w' → K' x0 w') : c_ref09_Bytes a0_0 a0_1 a0_2 a0_3 a1 w K' :=
  Calls.mono h fun e w' hh => by obtain ⟨x0, he, hx⟩ := hh; exact ⟨x0, he, hk _ _ hx⟩

/-- slices.Contains[[]int,int] -/
abbrev n_slices_Contains_int_int : FuncId := 88
def c_slices_Contains_int_int (a0 : SliceV) (a1 : Int) (w : World) (K : Bool → World → Prop) : Prop :=
  Calls Try.prog 88 ⟨[(Value.slice a0.a a0.len a0.cap), (Value.int .i64 a1)]⟩ w fun e w' => ∃ y5 : Bool, e = .returned (Value.bool y5) ∧ K y5 w'
theorem cm_slices_Contains_int_int {a0 a1 w K K'} (h : c_slices_Contains_int_int a0 a1 w K) (hk : ∀ x0 w', K x0 w' → K' x0 w') : c_slices_Contains_int_int a0 a1 w K' :=
  Calls.mono h fun e w' hh => by obtain ⟨x0, he, hx⟩ := hh; exact ⟨x0, he, hk _ _ hx⟩

/-- goosepond/goosepondref07.Check -/
abbrev n_ref07_Check : FuncId := 94
def c_ref07_Check (a0_0 : Int) (a0_1 : Int) (a0_2 : Bool) (a0_3 : SliceV) (w : World) (K : Int → World → Prop) : Prop :=
  Calls Try.prog 94 ⟨[(Value.agg ⟨[(Value.int .i64 a0_0), (Value.int .i64 a0_1), (Value.bool a0_2), (Value.slice a0_3.a a0_3.len a0_3.cap)]⟩)]⟩ w fun e w' => ∃ y14 : Int, e = .returned (Value.int .i64 y14) ∧ K y14 w'
theorem cm_ref07_Check {a0_0 a0_1 a0_2 a0_3 w K K'} (h : c_ref07_Check a0_0 a0_1 a0_2 a0_3 w K) (hk : ∀ x0 w', K x0 w' → K' x0 w') : c_ref07_Check a0_0 a0_1 a0_2 a0_3 w K' :=
  Calls.mono h fun e w' hh => by obtain ⟨x0, he, hx⟩ := hh; exact ⟨x0, he, hk _ _ hx⟩

/-- goosepond/goosepondref07.bytes -/
abbrev n_ref07_bytes : FuncId := 95
def c_ref07_bytes (a0_0 : Int) (a0_1 : Int) (a0_2 : Bool) (a0_3 : SliceV) (a1 : Int) (w : World) (K : SliceV → World → Prop) : Prop :=
  Calls Try.prog 95 ⟨[(Value.agg ⟨[(Value.int .i64 a0_0), (Value.int .i64 a0_1), (Value.bool a0_2), (Value.slice a0_3.a a0_3.len a0_3.cap)]⟩), (Value.int .i64 a1)]⟩ w fun e w' => ∃ y19 : SliceV, e = .returned (Value.slice y19.a y19.len y19.cap) ∧ K y19 w'
theorem cm_ref07_bytes {a0_0 a0_1 a0_2 a0_3 a1 w K K'} (h : c_ref07_bytes a0_0 a0_1 a0_2 a0_3 a1 w K) (hk : ∀ x0 w', K x0 w' → K' x0 w') : c_ref07_bytes a0_0 a0_1 a0_2 a0_3 a1 w K' :=
  Calls.mono h fun e w' hh => by obtain ⟨x0, he, hx⟩ := hh; exact ⟨x0, he, hk _ _ hx⟩

/-- goosepond/goosepondref07.Pseudo -/
abbrev n_ref07_Pseudo : FuncId := 96
def c_ref07_Pseudo (a0 : Int) (a1 : Int) (a2 : Int) (a3 : Int) (w : World) (K : SliceV → World → Prop) : Prop :=
  Calls Try.prog 96 ⟨[(Value.int .i64 a0), (Value.int .i64 a1), (Value.int .i64 a2), (Value.int .i64 a3)]⟩ w fun e w' => ∃ y25 : SliceV, e = .returned (Value.slice y25.a y25.len y25.cap) ∧ K y25 w'
theorem cm_ref07_Pseudo {a0 a1 a2 a3 w K K'} (h : c_ref07_Pseudo a0 a1 a2 a3 w K) (hk : ∀ x0 w', K x0 w' → K' x0 w') : c_ref07_Pseudo a0 a1 a2 a3 w K' :=
  Calls.mono h fun e w' hh => by obtain ⟨x0, he, hx⟩ := hh; exact ⟨x0, he, hk _ _ hx⟩

/-- goosepond/four.one -/
abbrev n_four_one : FuncId := 97
def c_four_one (a0 : Int) (a1 : SliceV) (w : World) (K : Bool → World → Prop) : Prop :=
  Calls Try.prog 97 ⟨[(Value.int .i64 a0), (Value.slice a1.a a1.len a1.cap)]⟩ w fun e w' => ∃ y16 : Bool, e = .returned (Value.bool y16) ∧ K y16 w'
theorem cm_four_one {a0 a1 w K K'} (h : c_four_one a0 a1 w K) (hk : ∀ x0 w', K x0 w' → K' x0 w') : c_four_one a0 a1 w K' :=
  Calls.mono h fun e w' hh => by obtain ⟨x0, he, hx⟩ := hh; exact ⟨x0, he, hk _ _ hx⟩

/-- slices.Index[[]int,int] -/
abbrev n_slices_Index_int_int : FuncId := 98
def c_slices_Index_int_int (a0 : SliceV) (a1 : Int) (w : World) (K : Int → World → Prop) : Prop :=
  Calls Try.prog 98 ⟨[(Value.slice a0.a a0.len a0.cap), (Value.int .i64 a1)]⟩ w fun e w' => ∃ y8 : Int, e = .returned (Value.int .i64 y8) ∧ K y8 w'
theorem cm_slices_Index_int_int {a0 a1 w K K'} (h : c_slices_Index_int_int a0 a1 w K) (hk : ∀ x0 w', K x0 w' → K' x0 w') : c_slices_Index_int_int a0 a1 w K' :=
  Calls.mono h fun e w' hh => by obtain ⟨x0, he, hx⟩ := hh; exact ⟨x0, he, hk _ _ hx⟩

/-- goosepond/goosepondref07.mod -/
abbrev n_ref07_mod : FuncId := 100
def c_ref07_mod (a0 : Int) (a1 : Int) (w : World) (K : Int → World → Prop) : Prop :=
  Calls Try.prog 100 ⟨[(Value.int .i64 a0), (Value.int .i64 a1)]⟩ w fun e w' => ∃ y3 : Int, e = .returned (Value.int .i64 y3) ∧ K y3 w'
theorem cm_ref07_mod {a0 a1 w K K'} (h : c_ref07_mod a0 a1 w K) (hk : ∀ x0 w', K x0 w' → K' x0 w') : c_ref07_mod a0 a1 w K' :=
  Calls.mono h fun e w' hh => by obtain ⟨x0, he, hx⟩ := hh; exact ⟨x0, he, hk _ _ hx⟩

/-- (goosepond/four.block).has -/
abbrev n_four_block_has : FuncId := 101
def c_four_block_has (a0_0 : Int) (a0_1 : Int) (a1 : Int) (w : World) (K : Bool → World → Prop) : Prop :=
  Calls Try.prog 101 ⟨[(Value.agg ⟨[(Value.int .i64 a0_0), (Value.int .i64 a0_1)]⟩), (Value.int .i64 a1)]⟩ w fun e w' => ∃ y12 : Bool, e = .returned (Value.bool y12) ∧ K y12 w'
theorem cm_four_block_has {a0_0 a0_1 a1 w K K'} (h : c_four_block_has a0_0 a0_1 a1 w K) (hk : ∀ x0 w', K x0 w' → K' x0 w') : c_four_block_has a0_0 a0_1 a1 w K' :=
  Calls.mono h fun e w' hh => by obtain ⟨x0, he, hx⟩ := hh; exact ⟨x0, he, hk _ _ hx⟩

/-- goosepond/goosepondlaw28.ErrsMake -/
def s_law28_ErrsMake (a0 : Int) (a1 : Int) (a2 : Int) (a3 : Int) (a4 : SliceV) (w : World) (K : Bool → World → Prop) : Prop :=
 ((bif (decide ((a4.len : Int) > 3000)) then
 c_law28_awake  w fun r6 w7 =>
 K r6 w7
 else
 c_errs_Make a0 a1 a2 a3 a4 w fun r8 r9 r10 r11 r12 r13 r14 r15 r16 r17 r18 r19 w20 =>
 Al w20 (.cells ⟨[(Value.int .i64 0), (Value.int .i64 0), (Value.int .i64 0), (Value.int .i64 0), (Value.int .i64 0), (Value.int .i64 0), (Value.int .i64 0), (Value.bool false), (Value.bool false), (Value.slice none 0 0), (Value.slice none 0 0)]⟩ 25) fun a22 w21 =>
 StN [(Value.int .i64 r8), (Value.int .i64 r9), (Value.int .i64 r10), (Value.int .i64 r11), (Value.int .i64 r12), (Value.int .i64 r13), (Value.int .i64 r14), (Value.bool r15), (Value.bool r16), (Value.slice r17.a r17.len r17.cap), (Value.slice r18.a r18.len r18.cap)] w21 a22 0 fun w23 =>
 c_ref28_Make a0 a1 a2 a3 a4 w23 fun r24 r25 r26 r27 r28 r29 r30 r31 r32 r33 r34 r35 w36 =>
 Al w36 (.cells ⟨[(Value.int .i64 0), (Value.int .i64 0), (Value.int .i64 0), (Value.int .i64 0), (Value.int .i64 0), (Value.int .i64 0), (Value.int .i64 0), (Value.bool false), (Value.bool false), (Value.slice none 0 0), (Value.slice none 0 0)]⟩ 25) fun a38 w37 =>
 StN [(Value.int .i64 r24), (Value.int .i64 r25), (Value.int .i64 r26), (Value.int .i64 r27), (Value.int .i64 r28), (Value.int .i64 r29), (Value.int .i64 r30), (Value.bool r31), (Value.bool r32), (Value.slice r33.a r33.len r33.cap), (Value.slice r34.a r34.len r34.cap)] w37 a38 0 fun w39 =>
 let J40 : Bool → World → Prop := fun j41 w42 =>
 (K j41 w42)
 c_errs_May a4 w39 fun r43 w44 =>
 c_ref28_May a4 w44 fun r45 w46 =>
 (bif ((r43 : Bool) == r45) then
 (bif (r19 == r35) then
 Ld (.int .i64) w46 (a22.add 0) fun x47 =>
 Ld (.int .i64) w46 (a22.add 1) fun x48 =>
 Ld (.int .i64) w46 (a22.add 2) fun x49 =>
 Ld (.int .i64) w46 (a22.add 3) fun x50 =>
 Ld (.int .i64) w46 (a22.add 4) fun x51 =>
 Ld (.int .i64) w46 (a22.add 5) fun x52 =>
 Ld (.int .i64) w46 (a22.add 6) fun x53 =>
 Ld .bool w46 (a22.add 7) fun x54 =>
 Ld .bool w46 (a22.add 8) fun x55 =>
 Ld .slice w46 (a22.add 9) fun x56 =>
 Ld .slice w46 (a22.add 10) fun x57 =>
 Ld (.int .i64) w46 (a38.add 0) fun x58 =>
 Ld (.int .i64) w46 (a38.add 1) fun x59 =>
 Ld (.int .i64) w46 (a38.add 2) fun x60 =>
 Ld (.int .i64) w46 (a38.add 3) fun x61 =>
 Ld (.int .i64) w46 (a38.add 4) fun x62 =>
 Ld (.int .i64) w46 (a38.add 5) fun x63 =>
 Ld (.int .i64) w46 (a38.add 6) fun x64 =>
 Ld .bool w46 (a38.add 7) fun x65 =>
 Ld .bool w46 (a38.add 8) fun x66 =>
 Ld .slice w46 (a38.add 9) fun x67 =>
 Ld .slice w46 (a38.add 10) fun x68 =>
 c_ref05_Same x47 x48 x49 x50 x51 x52 x53 x54 x55 x56 x57 x58 x59 x60 x61 x62 x63 x64 x65 x66 x67 x68 w46 fun r69 w70 =>
 (bif r69 then
 c_law28_awake  w70 fun r71 w72 =>
 J40 r71 w72
 else
 J40 false w70)
 else
 J40 false w46)
 else
 J40 false w46)))
theorem e_law28_ErrsMake (a0 : Int) (a1 : Int) (a2 : Int) (a3 : Int) (a4 : SliceV) (w : World) (K : Bool → World → Prop) : den Try.prog 55 (bodyOf Try.f7) none (.seq .leaf (.seq (.seq .leaf (.cond (.seq .leaf .leaf) .leaf)) (.seq .leaf (.seq .leaf (.seq .leaf .leaf))))) (argEnv 0 [(Value.int .i64 a0), (Value.int .i64 a1), (Value.int .i64 a2), (Value.int .i64 a3), (Value.slice a4.a a4.len a4.cap)]) [] w (retK Try.prog [.tmp 10] [.one .bool] K) = s_law28_ErrsMake a0 a1 a2 a3 a4 w K := by kernel_rfl
theorem ok_law28_ErrsMake {a0 a1 a2 a3 a4 w K} (h : s_law28_ErrsMake a0 a1 a2 a3 a4 w K) : c_law28_ErrsMake a0 a1 a2 a3 a4 w K :=
  fn_sound pok Try.func7 (fn := Try.f7) (c := bodyOf Try.f7) (nt := 55) (by kernel_rfl) (by kernel_rfl) (rs := [.tmp 10]) (by kernel_rfl) [.one .bool] K (.seq .leaf (.seq (.seq .leaf (.cond (.seq .leaf .leaf) .leaf)) (.seq .leaf (.seq .leaf (.seq .leaf .leaf))))) [(Value.int .i64 a0), (Value.int .i64 a1), (Value.int .i64 a2), (Value.int .i64 a3), (Value.slice a4.a a4.len a4.cap)] (by kernel_rfl) w ((e_law28_ErrsMake a0 a1 a2 a3 a4 w K).mpr h)

/-- goosepond/goosepondlaw28.ErrsQuote -/
def s_law28_ErrsQuote (a0 : Int) (a1 : Int) (a2 : Int) (a3 : SliceV) (w : World) (K : Bool → World → Prop) : Prop :=
 ((bif (decide ((a3.len : Int) > 3000)) then
 c_law28_awake  w fun r5 w6 =>
 K r5 w6
 else
 c_errs_Make (IntKind.i64.wrap a0) (IntKind.i64.wrap a1) (IntKind.i64.wrap a2) 0 a3 w fun r7 r8 r9 r10 r11 r12 r13 r14 r15 r16 r17 r18 w19 =>
 Al w19 (.cells ⟨[(Value.int .i64 0), (Value.int .i64 0), (Value.int .i64 0), (Value.int .i64 0), (Value.int .i64 0), (Value.int .i64 0), (Value.int .i64 0), (Value.bool false), (Value.bool false), (Value.slice none 0 0), (Value.slice none 0 0)]⟩ 25) fun a21 w20 =>
 StN [(Value.int .i64 r7), (Value.int .i64 r8), (Value.int .i64 r9), (Value.int .i64 r10), (Value.int .i64 r11), (Value.int .i64 r12), (Value.int .i64 r13), (Value.bool r14), (Value.bool r15), (Value.slice r16.a r16.len r16.cap), (Value.slice r17.a r17.len r17.cap)] w20 a21 0 fun w22 =>
 (bif (r18 != 0) then
 let J23 : Bool → World → Prop := fun j24 w25 =>
 (K j24 w25)
 (bif (r18 == 11) then
 c_errs_May a3 w22 fun r26 w27 =>
 (bif (!r26) then
 c_law28_awake  w27 fun r28 w29 =>
 J23 r28 w29
 else
 J23 false w27)
 else
 J23 false w22)
 else
 Ld .slice w22 (a21.add 10) fun x30 =>
 c_icmp_Parse x30 w22 fun r31 r32 r33 r34 r35 w36 =>
 Al w36 (.cells ⟨[(Value.int .i64 0), (Value.int .i64 0), (Value.int .i64 0), (Value.slice none 0 0)]⟩ 45) fun a38 w37 =>
 StN [(Value.int .i64 r31), (Value.int .i64 r32), (Value.int .i64 r33), (Value.slice r34.a r34.len r34.cap)] w37 a38 0 fun w39 =>
 c_v4_Quoted a3 w39 fun r40 r41 r42 r43 r44 r45 r46 r47 r48 r49 r50 r51 w52 =>
 Al w52 (.cells ⟨[(Value.int .i64 0), (Value.int .i64 0), (Value.int .i64 0), (Value.int .i64 0), (Value.int .i64 0), (Value.int .i64 0), (Value.int .i64 0), (Value.bool false), (Value.bool false), (Value.slice none 0 0), (Value.slice none 0 0)]⟩ 25) fun a54 w53 =>
 StN [(Value.int .i64 r40), (Value.int .i64 r41), (Value.int .i64 r42), (Value.int .i64 r43), (Value.int .i64 r44), (Value.int .i64 r45), (Value.int .i64 r46), (Value.bool r47), (Value.bool r48), (Value.slice r49.a r49.len r49.cap), (Value.slice r50.a r50.len r50.cap)] w53 a54 0 fun w55 =>
 let J56 : Bool → World → Prop := fun j57 w58 =>
 (K j57 w58)
 (bif (r35 == 0) then
 (bif (r51 == 0) then
 Ld (.int .i64) w55.drew (a21.add 6) fun x59 =>
 Ld (.int .i64) w55.drew (a54.add 5) fun x60 =>
 (bif (x59 == x60) then
 Ld (.int .i64) w55.drew (a21.add 5) fun x61 =>
 (bif (x61 == (IntKind.i64.wrap a0)) then
 Ld .slice w55.drew (a38.add 3) fun x62 =>
 c_errs_Most  w55.drew fun r63 w64 =>
 w64.cell? (a38.add 3) = some (Value.slice x62.a x62.len x62.cap) ∧
 (bif (decide ((x62.len : Int) ≤ r63)) then
 Ld .slice w64 (a38.add 3) fun x65 =>
 Ld (.int .i64) w64 (a54.add 0) fun x66 =>
 Ld (.int .i64) w64 (a54.add 1) fun x67 =>
 Ld (.int .i64) w64 (a54.add 2) fun x68 =>
 Ld (.int .i64) w64 (a54.add 3) fun x69 =>
 Ld (.int .i64) w64 (a54.add 4) fun x70 =>
 Ld (.int .i64) w64 (a54.add 5) fun x71 =>
 Ld (.int .i64) w64 (a54.add 6) fun x72 =>
 Ld .bool w64 (a54.add 7) fun x73 =>
 Ld .bool w64 (a54.add 8) fun x74 =>
 Ld .slice w64 (a54.add 9) fun x75 =>
 Ld .slice w64 (a54.add 10) fun x76 =>
 c_v4_Size x66 x67 x68 x69 x70 x71 x72 x73 x74 x75 x76 w64 fun r77 w78 =>
 w78.cell? (a38.add 3) = some (Value.slice x65.a x65.len x65.cap) ∧
 (bif (decide ((x65.len : Int) ≥ (if r77 < 28 then r77 else 28))) then
 Ld .slice w78 (a38.add 3) fun x79 =>
 c_bytes_HasPrefix a3 x79 w78 fun r80 w81 =>
 (bif r80 then
 Ld (.int .i64) w81 a38 fun x82 =>
 (bif (x82 == (IntKind.i64.wrap a1)) then
 Ld (.int .i64) w81 (a21.add 0) fun x83 =>
 Ld (.int .i64) w81 (a21.add 1) fun x84 =>
 Ld (.int .i64) w81 (a21.add 2) fun x85 =>
 Ld (.int .i64) w81 (a21.add 3) fun x86 =>
 Ld (.int .i64) w81 (a21.add 4) fun x87 =>
 Ld (.int .i64) w81 (a21.add 5) fun x88 =>
 Ld (.int .i64) w81 (a21.add 6) fun x89 =>
 Ld .bool w81 (a21.add 7) fun x90 =>
 Ld .bool w81 (a21.add 8) fun x91 =>
 Ld .slice w81 (a21.add 9) fun x92 =>
 Ld .slice w81 (a21.add 10) fun x93 =>
 c_v4_Size x83 x84 x85 x86 x87 x88 x89 x90 x91 x92 x93 w81 fun r94 w95 =>
 (bif (decide (r94 ≤ 576)) then
 c_law28_awake  w95 fun r96 w97 =>
 J56 r96 w97
 else
 J56 false w95)
 else
 J56 false w81)
 else
 J56 false w81)
 else
 J56 false w78)
 else
 J56 false w64)
 else
 J56 false w55.drew)
 else
 J56 false w55.drew)
 else
 J56 false w55.drew)
 else
 J56 false w55.drew))))
theorem e_law28_ErrsQuote (a0 : Int) (a1 : Int) (a2 : Int) (a3 : SliceV) (w : World) (K : Bool → World → Prop) : den Try.prog 110 (bodyOf Try.f8) none (.seq .leaf (.seq (.seq .leaf (.cond (.seq .leaf .leaf) .leaf)) (.seq .leaf (.seq (.seq .leaf (.cond (.seq .leaf .leaf) .leaf)) (.seq .leaf (.seq .leaf (.seq .leaf .leaf))))))) (argEnv 0 [(Value.int .u32 a0), (Value.int .u8 a1), (Value.int .u8 a2), (Value.slice a3.a a3.len a3.cap)]) [] w (retK Try.prog [.tmp 8] [.one .bool] K) = s_law28_ErrsQuote a0 a1 a2 a3 w K := by kernel_rfl
theorem ok_law28_ErrsQuote {a0 a1 a2 a3 w K} (h : s_law28_ErrsQuote a0 a1 a2 a3 w K) : c_law28_ErrsQuote a0 a1 a2 a3 w K :=
  fn_sound pok Try.func8 (fn := Try.f8) (c := bodyOf Try.f8) (nt := 110) (by kernel_rfl) (by kernel_rfl) (rs := [.tmp 8]) (by kernel_rfl) [.one .bool] K (.seq .leaf (.seq (.seq .leaf (.cond (.seq .leaf .leaf) .leaf)) (.seq .leaf (.seq (.seq .leaf (.cond (.seq .leaf .leaf) .leaf)) (.seq .leaf (.seq .leaf (.seq .leaf .leaf))))))) [(Value.int .u32 a0), (Value.int .u8 a1), (Value.int .u8 a2), (Value.slice a3.a a3.len a3.cap)] (by kernel_rfl) w ((e_law28_ErrsQuote a0 a1 a2 a3 w K).mpr h)

/-- goosepond/goosepondlaw28.ErrsOnce -/
def s_law28_ErrsOnce (a0 : Int) (a1 : Int) (a2 : Int) (a3 : Int) (a4 : SliceV) (w : World) (K : Bool → World → Prop) : Prop :=
 ((bif (decide ((a4.len : Int) > 3000)) then
 c_law28_awake  w fun r6 w7 =>
 K r6 w7
 else
 c_errs_Make a0 a1 a2 a3 a4 w fun r8 r9 r10 r11 r12 r13 r14 r15 r16 r17 r18 r19 w20 =>
 Al w20 (.cells ⟨[(Value.int .i64 0), (Value.int .i64 0), (Value.int .i64 0), (Value.int .i64 0), (Value.int .i64 0), (Value.int .i64 0), (Value.int .i64 0), (Value.bool false), (Value.bool false), (Value.slice none 0 0), (Value.slice none 0 0)]⟩ 25) fun a22 w21 =>
 StN [(Value.int .i64 r8), (Value.int .i64 r9), (Value.int .i64 r10), (Value.int .i64 r11), (Value.int .i64 r12), (Value.int .i64 r13), (Value.int .i64 r14), (Value.bool r15), (Value.bool r16), (Value.slice r17.a r17.len r17.cap), (Value.slice r18.a r18.len r18.cap)] w21 a22 0 fun w23 =>
 let J24 : Bool → World → Prop := fun j25 w26 =>
 ((bif j25 then
 c_law28_awake  w26 fun r27 w28 =>
 K r27 w28
 else
 Ld (.int .i64) w26 (a22.add 0) fun x29 =>
 Ld (.int .i64) w26 (a22.add 1) fun x30 =>
 Ld (.int .i64) w26 (a22.add 2) fun x31 =>
 Ld (.int .i64) w26 (a22.add 3) fun x32 =>
 Ld (.int .i64) w26 (a22.add 4) fun x33 =>
 Ld (.int .i64) w26 (a22.add 5) fun x34 =>
 Ld (.int .i64) w26 (a22.add 6) fun x35 =>
 Ld .bool w26 (a22.add 7) fun x36 =>
 Ld .bool w26 (a22.add 8) fun x37 =>
 Ld .slice w26 (a22.add 9) fun x38 =>
 Ld .slice w26 (a22.add 10) fun x39 =>
 c_v4_Build x29 x30 x31 x32 x33 x34 x35 x36 x37 x38 x39 w26 fun r40 r41 w42 =>
 c_errs_Make a0 3 1 0 r40 w42 fun r43 r44 r45 r46 r47 r48 r49 r50 r51 r52 r53 r54 w55 =>
 Al w55 (.cells ⟨[(Value.int .i64 0), (Value.int .i64 0), (Value.int .i64 0), (Value.int .i64 0), (Value.int .i64 0), (Value.int .i64 0), (Value.int .i64 0), (Value.bool false), (Value.bool false), (Value.slice none 0 0), (Value.slice none 0 0)]⟩ 25) fun a57 w56 =>
 StN [(Value.int .i64 r43), (Value.int .i64 r44), (Value.int .i64 r45), (Value.int .i64 r46), (Value.int .i64 r47), (Value.int .i64 r48), (Value.int .i64 r49), (Value.bool r50), (Value.bool r51), (Value.slice r52.a r52.len r52.cap), (Value.slice r53.a r53.len r53.cap)] w56 a57 0 fun w58 =>
 let J59 : Bool → World → Prop := fun j60 w61 =>
 (K j60 w61)
 (bif (r41 == 0) then
 c_errs_May r40 w58 fun r62 w63 =>
 (bif (!r62) then
 (bif (r54 == 11) then
 c_law28_awake  w63 fun r64 w65 =>
 J59 r64 w65
 else
 J59 false w63)
 else
 J59 false w63)
 else
 J59 false w58)))
 (bif (r19 != 0) then
 J24 true w23
 else
 c_icmp_Fault a1 w23 fun r66 w67 =>
 J24 (!r66) w67)))
theorem e_law28_ErrsOnce (a0 : Int) (a1 : Int) (a2 : Int) (a3 : Int) (a4 : SliceV) (w : World) (K : Bool → World → Prop) : den Try.prog 63 (bodyOf Try.f9) none (.seq .leaf (.seq (.seq .leaf (.cond (.seq .leaf .leaf) .leaf)) (.seq .leaf (.seq (.seq .leaf (.cond (.seq .leaf .leaf) .leaf)) (.seq .leaf (.seq .leaf (.seq .leaf .leaf))))))) (argEnv 0 [(Value.int .i64 a0), (Value.int .i64 a1), (Value.int .i64 a2), (Value.int .i64 a3), (Value.slice a4.a a4.len a4.cap)]) [] w (retK Try.prog [.tmp 10] [.one .bool] K) = s_law28_ErrsOnce a0 a1 a2 a3 a4 w K := by kernel_rfl
theorem ok_law28_ErrsOnce {a0 a1 a2 a3 a4 w K} (h : s_law28_ErrsOnce a0 a1 a2 a3 a4 w K) : c_law28_ErrsOnce a0 a1 a2 a3 a4 w K :=
  fn_sound pok Try.func9 (fn := Try.f9) (c := bodyOf Try.f9) (nt := 63) (by kernel_rfl) (by kernel_rfl) (rs := [.tmp 10]) (by kernel_rfl) [.one .bool] K (.seq .leaf (.seq (.seq .leaf (.cond (.seq .leaf .leaf) .leaf)) (.seq .leaf (.seq (.seq .leaf (.cond (.seq .leaf .leaf) .leaf)) (.seq .leaf (.seq .leaf (.seq .leaf .leaf))))))) [(Value.int .i64 a0), (Value.int .i64 a1), (Value.int .i64 a2), (Value.int .i64 a3), (Value.slice a4.a a4.len a4.cap)] (by kernel_rfl) w ((e_law28_ErrsOnce a0 a1 a2 a3 a4 w K).mpr h)

/-- goosepond/goosepondlaw28.awake -/
def s_law28_awake  (w : World) (K : Bool → World → Prop) : Prop :=
 (c_plain_Datagram 167772161 3221225985 5 6 1 ⟨none, 0, 0⟩ w fun r1 w2 =>
 c_errs_Make 3221225473 11 0 0 r1 w2 fun r3 r4 r5 r6 r7 r8 r9 r10 r11 r12 r13 r14 w15 =>
 Al w15 (.cells ⟨[(Value.int .i64 0), (Value.int .i64 0), (Value.int .i64 0), (Value.int .i64 0), (Value.int .i64 0), (Value.int .i64 0), (Value.int .i64 0), (Value.bool false), (Value.bool false), (Value.slice none 0 0), (Value.slice none 0 0)]⟩ 25) fun a17 w16 =>
 StN [(Value.int .i64 r3), (Value.int .i64 r4), (Value.int .i64 r5), (Value.int .i64 r6), (Value.int .i64 r7), (Value.int .i64 r8), (Value.int .i64 r9), (Value.bool r10), (Value.bool r11), (Value.slice r12.a r12.len r12.cap), (Value.slice r13.a r13.len r13.cap)] w16 a17 0 fun w18 =>
 let J19 : Bool → World → Prop := fun j20 w21 =>
 (K j20 w21)
 (bif (r14 == 0) then
 c_errs_May r1 w18 fun r22 w23 =>
 (bif r22 then
 Ld (.int .i64) w23 (a17.add 6) fun x24 =>
 (bif (x24 == 167772161) then
 Ld .slice w23 (a17.add 10) fun x25 =>
 (bif ((x25.len : Int) == (IntKind.i64.wrap (8 + (r1.len : Int)))) then
 c_errs_Most  w23 fun r26 w27 =>
 J19 (r26 == 548) w27
 else
 J19 false w23)
 else
 J19 false w23)
 else
 J19 false w23)
 else
 J19 false w18))
theorem e_law28_awake  (w : World) (K : Bool → World → Prop) : den Try.prog 34 (bodyOf Try.f31) none (.seq .leaf (.seq .leaf (.seq .leaf (.seq .leaf .leaf)))) (argEnv 0 []) [] w (retK Try.prog [.tmp 0] [.one .bool] K) = s_law28_awake  w K := by kernel_rfl
theorem ok_law28_awake { w K} (h : s_law28_awake  w K) : c_law28_awake  w K :=
  fn_sound pok Try.func31 (fn := Try.f31) (c := bodyOf Try.f31) (nt := 34) (by kernel_rfl) (by kernel_rfl) (rs := [.tmp 0]) (by kernel_rfl) [.one .bool] K (.seq .leaf (.seq .leaf (.seq .leaf (.seq .leaf .leaf)))) [] (by kernel_rfl) w ((e_law28_awake  w K).mpr h)

/-- goosepond/errs.Make -/
def s_errs_Make (a0 : Int) (a1 : Int) (a2 : Int) (a3 : Int) (a4 : SliceV) (w : World) (K : Int → Int → Int → Int → Int → Int → Int → Bool → Bool → SliceV → SliceV → Int → World → Prop) : Prop :=
 (Al w (.cells ⟨[(Value.int .i64 0), (Value.int .i64 0), (Value.int .i64 0), (Value.int .i64 0), (Value.int .i64 0), (Value.int .i64 0), (Value.int .i64 0), (Value.bool false), (Value.bool false), (Value.slice none 0 0), (Value.slice none 0 0)]⟩ 25) fun a7 w6 =>
 c_errs_open a4 w6 fun r8 r9 r10 r11 r12 r13 r14 r15 r16 r17 r18 r19 w20 =>
 Al w20 (.cells ⟨[(Value.int .i64 0), (Value.int .i64 0), (Value.int .i64 0), (Value.int .i64 0), (Value.int .i64 0), (Value.int .i64 0), (Value.int .i64 0), (Value.bool false), (Value.bool false), (Value.slice none 0 0), (Value.slice none 0 0)]⟩ 25) fun a22 w21 =>
 StN [(Value.int .i64 r8), (Value.int .i64 r9), (Value.int .i64 r10), (Value.int .i64 r11), (Value.int .i64 r12), (Value.int .i64 r13), (Value.int .i64 r14), (Value.bool r15), (Value.bool r16), (Value.slice r17.a r17.len r17.cap), (Value.slice r18.a r18.len r18.cap)] w21 a22 0 fun w23 =>
 (bif (!r19) then
 StN [(Value.int .i64 0), (Value.int .i64 0), (Value.int .i64 0), (Value.int .i64 0), (Value.int .i64 0), (Value.int .i64 0), (Value.int .i64 0), (Value.bool false), (Value.bool false), (Value.slice none 0 0), (Value.slice none 0 0)] w23 a7 0 fun w24 =>
 Ld (.int .i64) w24 (a7.add 0) fun y25 =>
 Ld (.int .i64) w24 (a7.add 1) fun y26 =>
 Ld (.int .i64) w24 (a7.add 2) fun y27 =>
 Ld (.int .i64) w24 (a7.add 3) fun y28 =>
 Ld (.int .i64) w24 (a7.add 4) fun y29 =>
 Ld (.int .i64) w24 (a7.add 5) fun y30 =>
 Ld (.int .i64) w24 (a7.add 6) fun y31 =>
 Ld .bool w24 (a7.add 7) fun y32 =>
 Ld .bool w24 (a7.add 8) fun y33 =>
 Ld .slice w24 (a7.add 9) fun y34 =>
 Ld .slice w24 (a7.add 10) fun y35 =>
 K y25 y26 y27 y28 y29 y30 y31 y32 y33 y34 y35 11 w24
 else
 Ld (.int .i64) w23 (a22.add 0) fun x36 =>
 Ld (.int .i64) w23 (a22.add 1) fun x37 =>
 Ld (.int .i64) w23 (a22.add 2) fun x38 =>
 Ld (.int .i64) w23 (a22.add 3) fun x39 =>
 Ld (.int .i64) w23 (a22.add 4) fun x40 =>
 Ld (.int .i64) w23 (a22.add 5) fun x41 =>
 Ld (.int .i64) w23 (a22.add 6) fun x42 =>
 Ld .bool w23 (a22.add 7) fun x43 =>
 Ld .bool w23 (a22.add 8) fun x44 =>
 Ld .slice w23 (a22.add 9) fun x45 =>
 Ld .slice w23 (a22.add 10) fun x46 =>
 c_errs_quote a4 x36 x37 x38 x39 x40 x41 x42 x43 x44 x45 x46 w23 fun r47 w48 =>
 Al w48 (.cells ⟨[(Value.int .i64 0), (Value.int .i64 0), (Value.int .i64 0), (Value.slice none 0 0)]⟩ 45) fun a50 w49 =>
 StN [(Value.int .i64 a1), (Value.int .i64 a2), (Value.int .i64 a3), (Value.slice r47.a r47.len r47.cap)] w49 a50 0 fun w51 =>
 Ld (.int .i64) w51 (a50.add 0) fun x52 =>
 Ld (.int .i64) w51 (a50.add 1) fun x53 =>
 Ld (.int .i64) w51 (a50.add 2) fun x54 =>
 Ld .slice w51 (a50.add 3) fun x55 =>
 c_icmp_Build x52 x53 x54 x55 w51 fun r56 r57 w58 =>
 (bif (r57 != 0) then
 StN [(Value.int .i64 0), (Value.int .i64 0), (Value.int .i64 0), (Value.int .i64 0), (Value.int .i64 0), (Value.int .i64 0), (Value.int .i64 0), (Value.bool false), (Value.bool false), (Value.slice none 0 0), (Value.slice none 0 0)] w58 a7 0 fun w59 =>
 Ld (.int .i64) w59 (a7.add 0) fun y60 =>
 Ld (.int .i64) w59 (a7.add 1) fun y61 =>
 Ld (.int .i64) w59 (a7.add 2) fun y62 =>
 Ld (.int .i64) w59 (a7.add 3) fun y63 =>
 Ld (.int .i64) w59 (a7.add 4) fun y64 =>
 Ld (.int .i64) w59 (a7.add 5) fun y65 =>
 Ld (.int .i64) w59 (a7.add 6) fun y66 =>
 Ld .bool w59 (a7.add 7) fun y67 =>
 Ld .bool w59 (a7.add 8) fun y68 =>
 Ld .slice w59 (a7.add 9) fun y69 =>
 Ld .slice w59 (a7.add 10) fun y70 =>
 K y60 y61 y62 y63 y64 y65 y66 y67 y68 y69 y70 1 w59
 else
 Ld (.int .i64) w58 (a22.add 5) fun x71 =>
 Al w58 (.cells ⟨[(Value.int .i64 0), (Value.int .i64 0), (Value.int .i64 0), (Value.int .i64 0), (Value.int .i64 0), (Value.int .i64 0), (Value.int .i64 0), (Value.bool false), (Value.bool false), (Value.slice none 0 0), (Value.slice none 0 0)]⟩ 25) fun a73 w72 =>
 StN [(Value.int .i64 0), (Value.int .i64 0), (Value.int .i64 0), (Value.int .i64 64), (Value.int .i64 1), (Value.int .i64 a0), (Value.int .i64 x71), (Value.bool false), (Value.bool false), (Value.slice none 0 0), (Value.slice r56.a r56.len r56.cap)] w72 a73 0 fun w74 =>
 Ld (.int .i64) w74 (a73.add 0) fun x75 =>
 Ld (.int .i64) w74 (a73.add 1) fun x76 =>
 Ld (.int .i64) w74 (a73.add 2) fun x77 =>
 Ld (.int .i64) w74 (a73.add 3) fun x78 =>
 Ld (.int .i64) w74 (a73.add 4) fun x79 =>
 Ld (.int .i64) w74 (a73.add 5) fun x80 =>
 Ld (.int .i64) w74 (a73.add 6) fun x81 =>
 Ld .bool w74 (a73.add 7) fun x82 =>
 Ld .bool w74 (a73.add 8) fun x83 =>
 Ld .slice w74 (a73.add 9) fun x84 =>
 Ld .slice w74 (a73.add 10) fun x85 =>
 c_v4_Check x75 x76 x77 x78 x79 x80 x81 x82 x83 x84 x85 w74 fun r86 w87 =>
 (bif (r86 != 0) then
 StN [(Value.int .i64 0), (Value.int .i64 0), (Value.int .i64 0), (Value.int .i64 0), (Value.int .i64 0), (Value.int .i64 0), (Value.int .i64 0), (Value.bool false), (Value.bool false), (Value.slice none 0 0), (Value.slice none 0 0)] w87 a7 0 fun w88 =>
 Ld (.int .i64) w88 (a7.add 0) fun y89 =>
 Ld (.int .i64) w88 (a7.add 1) fun y90 =>
 Ld (.int .i64) w88 (a7.add 2) fun y91 =>
 Ld (.int .i64) w88 (a7.add 3) fun y92 =>
 Ld (.int .i64) w88 (a7.add 4) fun y93 =>
 Ld (.int .i64) w88 (a7.add 5) fun y94 =>
 Ld (.int .i64) w88 (a7.add 6) fun y95 =>
 Ld .bool w88 (a7.add 7) fun y96 =>
 Ld .bool w88 (a7.add 8) fun y97 =>
 Ld .slice w88 (a7.add 9) fun y98 =>
 Ld .slice w88 (a7.add 10) fun y99 =>
 K y89 y90 y91 y92 y93 y94 y95 y96 y97 y98 y99 1 w88
 else
 Ld (.int .i64) w87 (a73.add 0) fun x100 =>
 Ld (.int .i64) w87 (a73.add 1) fun x101 =>
 Ld (.int .i64) w87 (a73.add 2) fun x102 =>
 Ld (.int .i64) w87 (a73.add 3) fun x103 =>
 Ld (.int .i64) w87 (a73.add 4) fun x104 =>
 Ld (.int .i64) w87 (a73.add 5) fun x105 =>
 Ld (.int .i64) w87 (a73.add 6) fun x106 =>
 Ld .bool w87 (a73.add 7) fun x107 =>
 Ld .bool w87 (a73.add 8) fun x108 =>
 Ld .slice w87 (a73.add 9) fun x109 =>
 Ld .slice w87 (a73.add 10) fun x110 =>
 StN [(Value.int .i64 x100), (Value.int .i64 x101), (Value.int .i64 x102), (Value.int .i64 x103), (Value.int .i64 x104), (Value.int .i64 x105), (Value.int .i64 x106), (Value.bool x107), (Value.bool x108), (Value.slice x109.a x109.len x109.cap), (Value.slice x110.a x110.len x110.cap)] w87 a7 0 fun w111 =>
 Ld (.int .i64) w111 (a7.add 0) fun y112 =>
 Ld (.int .i64) w111 (a7.add 1) fun y113 =>
 Ld (.int .i64) w111 (a7.add 2) fun y114 =>
 Ld (.int .i64) w111 (a7.add 3) fun y115 =>
 Ld (.int .i64) w111 (a7.add 4) fun y116 =>
 Ld (.int .i64) w111 (a7.add 5) fun y117 =>
 Ld (.int .i64) w111 (a7.add 6) fun y118 =>
 Ld .bool w111 (a7.add 7) fun y119 =>
 Ld .bool w111 (a7.add 8) fun y120 =>
 Ld .slice w111 (a7.add 9) fun y121 =>
 Ld .slice w111 (a7.add 10) fun y122 =>
 K y112 y113 y114 y115 y116 y117 y118 y119 y120 y121 y122 0 w111))))
theorem e_errs_Make (a0 : Int) (a1 : Int) (a2 : Int) (a3 : Int) (a4 : SliceV) (w : World) (K : Int → Int → Int → Int → Int → Int → Int → Bool → Bool → SliceV → SliceV → Int → World → Prop) : den Try.prog 51 (bodyOf Try.f32) none (.seq .leaf (.seq .leaf (.seq (.seq .leaf (.cond (.seq .leaf .leaf) .leaf)) (.seq .leaf (.seq .leaf (.seq (.seq .leaf (.cond (.seq .leaf .leaf) .leaf)) (.seq .leaf (.seq (.seq .leaf (.cond (.seq .leaf .leaf) .leaf)) (.seq .leaf .leaf))))))))) (argEnv 0 [(Value.int .i64 a0), (Value.int .i64 a1), (Value.int .i64 a2), (Value.int .i64 a3), (Value.slice a4.a a4.len a4.cap)]) [] w (retK Try.prog [.cell 10 25, .tmp 11] [.agg [(.int .i64), (.int .i64), (.int .i64), (.int .i64), (.int .i64), (.int .i64), (.int .i64), .bool, .bool, .slice, .slice], .one (.int .i64)] K) = s_errs_Make a0 a1 a2 a3 a4 w K := by kernel_rfl
theorem ok_errs_Make {a0 a1 a2 a3 a4 w K} (h : s_errs_Make a0 a1 a2 a3 a4 w K) : c_errs_Make a0 a1 a2 a3 a4 w K :=
  fn_sound pok Try.func32 (fn := Try.f32) (c := bodyOf Try.f32) (nt := 51) (by kernel_rfl) (by kernel_rfl) (rs := [.cell 10 25, .tmp 11]) (by kernel_rfl) [.agg [(.int .i64), (.int .i64), (.int .i64), (.int .i64), (.int .i64), (.int .i64), (.int .i64), .bool, .bool, .slice, .slice], .one (.int .i64)] K (.seq .leaf (.seq .leaf (.seq (.seq .leaf (.cond (.seq .leaf .leaf) .leaf)) (.seq .leaf (.seq .leaf (.seq (.seq .leaf (.cond (.seq .leaf .leaf) .leaf)) (.seq .leaf (.seq (.seq .leaf (.cond (.seq .leaf .leaf) .leaf)) (.seq .leaf .leaf))))))))) [(Value.int .i64 a0), (Value.int .i64 a1), (Value.int .i64 a2), (Value.int .i64 a3), (Value.slice a4.a a4.len a4.cap)] (by kernel_rfl) w ((e_errs_Make a0 a1 a2 a3 a4 w K).mpr h)

/-- goosepond/goosepondref28.Make -/
def s_ref28_Make (a0 : Int) (a1 : Int) (a2 : Int) (a3 : Int) (a4 : SliceV) (w : World) (K : Int → Int → Int → Int → Int → Int → Int → Bool → Bool → SliceV → SliceV → Int → World → Prop) : Prop :=
 (Al w (.cells ⟨[(Value.int .i64 0), (Value.int .i64 0), (Value.int .i64 0), (Value.int .i64 0), (Value.int .i64 0), (Value.int .i64 0), (Value.int .i64 0), (Value.bool false), (Value.bool false), (Value.slice none 0 0), (Value.slice none 0 0)]⟩ 25) fun a7 w6 =>
 c_ref28_May a4 w6 fun r8 w9 =>
 (bif (!r8) then
 StN [(Value.int .i64 0), (Value.int .i64 0), (Value.int .i64 0), (Value.int .i64 0), (Value.int .i64 0), (Value.int .i64 0), (Value.int .i64 0), (Value.bool false), (Value.bool false), (Value.slice none 0 0), (Value.slice none 0 0)] w9 a7 0 fun w10 =>
 Ld (.int .i64) w10 (a7.add 0) fun y11 =>
 Ld (.int .i64) w10 (a7.add 1) fun y12 =>
 Ld (.int .i64) w10 (a7.add 2) fun y13 =>
 Ld (.int .i64) w10 (a7.add 3) fun y14 =>
 Ld (.int .i64) w10 (a7.add 4) fun y15 =>
 Ld (.int .i64) w10 (a7.add 5) fun y16 =>
 Ld (.int .i64) w10 (a7.add 6) fun y17 =>
 Ld .bool w10 (a7.add 7) fun y18 =>
 Ld .bool w10 (a7.add 8) fun y19 =>
 Ld .slice w10 (a7.add 9) fun y20 =>
 Ld .slice w10 (a7.add 10) fun y21 =>
 K y11 y12 y13 y14 y15 y16 y17 y18 y19 y20 y21 11 w10
 else
 c_ref05_Quoted a4 w9 fun r22 r23 r24 r25 r26 r27 r28 r29 r30 r31 r32 r33 w34 =>
 Al w34 (.cells ⟨[(Value.int .i64 0), (Value.int .i64 0), (Value.int .i64 0), (Value.int .i64 0), (Value.int .i64 0), (Value.int .i64 0), (Value.int .i64 0), (Value.bool false), (Value.bool false), (Value.slice none 0 0), (Value.slice none 0 0)]⟩ 25) fun a36 w35 =>
 StN [(Value.int .i64 r22), (Value.int .i64 r23), (Value.int .i64 r24), (Value.int .i64 r25), (Value.int .i64 r26), (Value.int .i64 r27), (Value.int .i64 r28), (Value.bool r29), (Value.bool r30), (Value.slice r31.a r31.len r31.cap), (Value.slice r32.a r32.len r32.cap)] w35 a36 0 fun w37 =>
 Ld (.int .i64) w37 (a36.add 0) fun x38 =>
 Ld (.int .i64) w37 (a36.add 1) fun x39 =>
 Ld (.int .i64) w37 (a36.add 2) fun x40 =>
 Ld (.int .i64) w37 (a36.add 3) fun x41 =>
 Ld (.int .i64) w37 (a36.add 4) fun x42 =>
 Ld (.int .i64) w37 (a36.add 5) fun x43 =>
 Ld (.int .i64) w37 (a36.add 6) fun x44 =>
 Ld .bool w37 (a36.add 7) fun x45 =>
 Ld .bool w37 (a36.add 8) fun x46 =>
 Ld .slice w37 (a36.add 9) fun x47 =>
 Ld .slice w37 (a36.add 10) fun x48 =>
 c_ref05_Size x38 x39 x40 x41 x42 x43 x44 x45 x46 x47 x48 w37 fun r49 w50 =>
 SubSl a4 1 0 (if (548 : Int) < r49 then 548 else r49) fun s51 =>
 c_ref09_Build a1 a2 a3 s51 w50 fun r52 r53 w54 =>
 (bif (r53 != 0) then
 StN [(Value.int .i64 0), (Value.int .i64 0), (Value.int .i64 0), (Value.int .i64 0), (Value.int .i64 0), (Value.int .i64 0), (Value.int .i64 0), (Value.bool false), (Value.bool false), (Value.slice none 0 0), (Value.slice none 0 0)] w54 a7 0 fun w55 =>
 Ld (.int .i64) w55 (a7.add 0) fun y56 =>
 Ld (.int .i64) w55 (a7.add 1) fun y57 =>
 Ld (.int .i64) w55 (a7.add 2) fun y58 =>
 Ld (.int .i64) w55 (a7.add 3) fun y59 =>
 Ld (.int .i64) w55 (a7.add 4) fun y60 =>
 Ld (.int .i64) w55 (a7.add 5) fun y61 =>
 Ld (.int .i64) w55 (a7.add 6) fun y62 =>
 Ld .bool w55 (a7.add 7) fun y63 =>
 Ld .bool w55 (a7.add 8) fun y64 =>
 Ld .slice w55 (a7.add 9) fun y65 =>
 Ld .slice w55 (a7.add 10) fun y66 =>
 K y56 y57 y58 y59 y60 y61 y62 y63 y64 y65 y66 1 w55
 else
 Ld (.int .i64) w54 (a36.add 5) fun x67 =>
 Al w54 (.cells ⟨[(Value.int .i64 0), (Value.int .i64 0), (Value.int .i64 0), (Value.int .i64 0), (Value.int .i64 0), (Value.int .i64 0), (Value.int .i64 0), (Value.bool false), (Value.bool false), (Value.slice none 0 0), (Value.slice none 0 0)]⟩ 25) fun a69 w68 =>
 StN [(Value.int .i64 0), (Value.int .i64 0), (Value.int .i64 0), (Value.int .i64 64), (Value.int .i64 1), (Value.int .i64 a0), (Value.int .i64 x67), (Value.bool false), (Value.bool false), (Value.slice none 0 0), (Value.slice r52.a r52.len r52.cap)] w68 a69 0 fun w70 =>
 Ld (.int .i64) w70 (a69.add 0) fun x71 =>
 Ld (.int .i64) w70 (a69.add 1) fun x72 =>
 Ld (.int .i64) w70 (a69.add 2) fun x73 =>
 Ld (.int .i64) w70 (a69.add 3) fun x74 =>
 Ld (.int .i64) w70 (a69.add 4) fun x75 =>
 Ld (.int .i64) w70 (a69.add 5) fun x76 =>
 Ld (.int .i64) w70 (a69.add 6) fun x77 =>
 Ld .bool w70 (a69.add 7) fun x78 =>
 Ld .bool w70 (a69.add 8) fun x79 =>
 Ld .slice w70 (a69.add 9) fun x80 =>
 Ld .slice w70 (a69.add 10) fun x81 =>
 c_ref05_Check x71 x72 x73 x74 x75 x76 x77 x78 x79 x80 x81 w70 fun r82 w83 =>
 (bif (r82 != 0) then
 StN [(Value.int .i64 0), (Value.int .i64 0), (Value.int .i64 0), (Value.int .i64 0), (Value.int .i64 0), (Value.int .i64 0), (Value.int .i64 0), (Value.bool false), (Value.bool false), (Value.slice none 0 0), (Value.slice none 0 0)] w83 a7 0 fun w84 =>
 Ld (.int .i64) w84 (a7.add 0) fun y85 =>
 Ld (.int .i64) w84 (a7.add 1) fun y86 =>
 Ld (.int .i64) w84 (a7.add 2) fun y87 =>
 Ld (.int .i64) w84 (a7.add 3) fun y88 =>
 Ld (.int .i64) w84 (a7.add 4) fun y89 =>
 Ld (.int .i64) w84 (a7.add 5) fun y90 =>
 Ld (.int .i64) w84 (a7.add 6) fun y91 =>
 Ld .bool w84 (a7.add 7) fun y92 =>
 Ld .bool w84 (a7.add 8) fun y93 =>
 Ld .slice w84 (a7.add 9) fun y94 =>
 Ld .slice w84 (a7.add 10) fun y95 =>
 K y85 y86 y87 y88 y89 y90 y91 y92 y93 y94 y95 1 w84
 else
 Ld (.int .i64) w83 (a69.add 0) fun x96 =>
 Ld (.int .i64) w83 (a69.add 1) fun x97 =>
 Ld (.int .i64) w83 (a69.add 2) fun x98 =>
 Ld (.int .i64) w83 (a69.add 3) fun x99 =>
 Ld (.int .i64) w83 (a69.add 4) fun x100 =>
 Ld (.int .i64) w83 (a69.add 5) fun x101 =>
 Ld (.int .i64) w83 (a69.add 6) fun x102 =>
 Ld .bool w83 (a69.add 7) fun x103 =>
 Ld .bool w83 (a69.add 8) fun x104 =>
 Ld .slice w83 (a69.add 9) fun x105 =>
 Ld .slice w83 (a69.add 10) fun x106 =>
 StN [(Value.int .i64 x96), (Value.int .i64 x97), (Value.int .i64 x98), (Value.int .i64 x99), (Value.int .i64 x100), (Value.int .i64 x101), (Value.int .i64 x102), (Value.bool x103), (Value.bool x104), (Value.slice x105.a x105.len x105.cap), (Value.slice x106.a x106.len x106.cap)] w83 a7 0 fun w107 =>
 Ld (.int .i64) w107 (a7.add 0) fun y108 =>
 Ld (.int .i64) w107 (a7.add 1) fun y109 =>
 Ld (.int .i64) w107 (a7.add 2) fun y110 =>
 Ld (.int .i64) w107 (a7.add 3) fun y111 =>
 Ld (.int .i64) w107 (a7.add 4) fun y112 =>
 Ld (.int .i64) w107 (a7.add 5) fun y113 =>
 Ld (.int .i64) w107 (a7.add 6) fun y114 =>
 Ld .bool w107 (a7.add 7) fun y115 =>
 Ld .bool w107 (a7.add 8) fun y116 =>
 Ld .slice w107 (a7.add 9) fun y117 =>
 Ld .slice w107 (a7.add 10) fun y118 =>
 K y108 y109 y110 y111 y112 y113 y114 y115 y116 y117 y118 0 w107))))
theorem e_ref28_Make (a0 : Int) (a1 : Int) (a2 : Int) (a3 : Int) (a4 : SliceV) (w : World) (K : Int → Int → Int → Int → Int → Int → Int → Bool → Bool → SliceV → SliceV → Int → World → Prop) : den Try.prog 54 (bodyOf Try.f33) none (.seq .leaf (.seq (.seq .leaf (.cond (.seq .leaf .leaf) .leaf)) (.seq .leaf (.seq .leaf (.seq .leaf (.seq (.seq .leaf (.cond (.seq .leaf .leaf) .leaf)) (.seq .leaf (.seq (.seq .leaf (.cond (.seq .leaf .leaf) .leaf)) (.seq .leaf .leaf))))))))) (argEnv 0 [(Value.int .i64 a0), (Value.int .i64 a1), (Value.int .i64 a2), (Value.int .i64 a3), (Value.slice a4.a a4.len a4.cap)]) [] w (retK Try.prog [.cell 10 25, .tmp 11] [.agg [(.int .i64), (.int .i64), (.int .i64), (.int .i64), (.int .i64), (.int .i64), (.int .i64), .bool, .bool, .slice, .slice], .one (.int .i64)] K) = s_ref28_Make a0 a1 a2 a3 a4 w K := by kernel_rfl
theorem ok_ref28_Make {a0 a1 a2 a3 a4 w K} (h : s_ref28_Make a0 a1 a2 a3 a4 w K) : c_ref28_Make a0 a1 a2 a3 a4 w K :=
  fn_sound pok Try.func33 (fn := Try.f33) (c := bodyOf Try.f33) (nt := 54) (by kernel_rfl) (by kernel_rfl) (rs := [.cell 10 25, .tmp 11]) (by kernel_rfl) [.agg [(.int .i64), (.int .i64), (.int .i64), (.int .i64), (.int .i64), (.int .i64), (.int .i64), .bool, .bool, .slice, .slice], .one (.int .i64)] K (.seq .leaf (.seq (.seq .leaf (.cond (.seq .leaf .leaf) .leaf)) (.seq .leaf (.seq .leaf (.seq .leaf (.seq (.seq .leaf (.cond (.seq .leaf .leaf) .leaf)) (.seq .leaf (.seq (.seq .leaf (.cond (.seq .leaf .leaf) .leaf)) (.seq .leaf .leaf))))))))) [(Value.int .i64 a0), (Value.int .i64 a1), (Value.int .i64 a2), (Value.int .i64 a3), (Value.slice a4.a a4.len a4.cap)] (by kernel_rfl) w ((e_ref28_Make a0 a1 a2 a3 a4 w K).mpr h)

/-- goosepond/errs.May -/
def s_errs_May (a0 : SliceV) (w : World) (K : Bool → World → Prop) : Prop :=
 (c_errs_open a0 w fun r2 r3 r4 r5 r6 r7 r8 r9 r10 r11 r12 r13 w14 =>
 Al w14 (.cells ⟨[(Value.int .i64 0), (Value.int .i64 0), (Value.int .i64 0), (Value.int .i64 0), (Value.int .i64 0), (Value.int .i64 0), (Value.int .i64 0), (Value.bool false), (Value.bool false), (Value.slice none 0 0), (Value.slice none 0 0)]⟩ 25) fun a16 w15 =>
 StN [(Value.int .i64 r2), (Value.int .i64 r3), (Value.int .i64 r4), (Value.int .i64 r5), (Value.int .i64 r6), (Value.int .i64 r7), (Value.int .i64 r8), (Value.bool r9), (Value.bool r10), (Value.slice r11.a r11.len r11.cap), (Value.slice r12.a r12.len r12.cap)] w15 a16 0 fun w17 =>
 K r13 w17)
theorem e_errs_May (a0 : SliceV) (w : World) (K : Bool → World → Prop) : den Try.prog 11 (bodyOf Try.f34) none (.seq .leaf (.seq .leaf (.seq .leaf .leaf))) (argEnv 0 [(Value.slice a0.a a0.len a0.cap)]) [] w (retK Try.prog [.tmp 2] [.one .bool] K) = s_errs_May a0 w K := by kernel_rfl
theorem ok_errs_May {a0 w K} (h : s_errs_May a0 w K) : c_errs_May a0 w K :=
  fn_sound pok Try.func34 (fn := Try.f34) (c := bodyOf Try.f34) (nt := 11) (by kernel_rfl) (by kernel_rfl) (rs := [.tmp 2]) (by kernel_rfl) [.one .bool] K (.seq .leaf (.seq .leaf (.seq .leaf .leaf))) [(Value.slice a0.a a0.len a0.cap)] (by kernel_rfl) w ((e_errs_May a0 w K).mpr h)

/-- goosepond/goosepondref28.May -/
def s_ref28_May (a0 : SliceV) (w : World) (K : Bool → World → Prop) : Prop :=
 (c_ref05_Quoted a0 w fun r2 r3 r4 r5 r6 r7 r8 r9 r10 r11 r12 r13 w14 =>
 Al w14 (.cells ⟨[(Value.int .i64 0), (Value.int .i64 0), (Value.int .i64 0), (Value.int .i64 0), (Value.int .i64 0), (Value.int .i64 0), (Value.int .i64 0), (Value.bool false), (Value.bool false), (Value.slice none 0 0), (Value.slice none 0 0)]⟩ 25) fun a16 w15 =>
 StN [(Value.int .i64 r2), (Value.int .i64 r3), (Value.int .i64 r4), (Value.int .i64 r5), (Value.int .i64 r6), (Value.int .i64 r7), (Value.int .i64 r8), (Value.bool r9), (Value.bool r10), (Value.slice r11.a r11.len r11.cap), (Value.slice r12.a r12.len r12.cap)] w15 a16 0 fun w17 =>
 let J18 : Bool → World → Prop := fun j19 w20 =>
 ((bif j19 then
 K false w20
 else
 let J21 : Bool → World → Prop := fun j22 w23 =>
 (K j22 w23)
 Ld (.int .i64) w20 (a16.add 4) fun x24 =>
 (bif (x24 != 1) then
 J21 true w20
 else
 Ld .slice w20 (a16.add 10) fun x25 =>
 (bif (decide ((x25.len : Int) > 0)) then
 Ld .slice w20 (a16.add 10) fun x26 =>
 AtIx x26 1 0 fun a27 =>
 Ld (.int .u8) w20 a27 fun x28 =>
 c_ref09_Fault (IntKind.i64.wrap x28) w20 fun r29 w30 =>
 J21 (!r29) w30
 else
 J21 false w20))))
 (bif (r13 != 0) then
 J18 true w17
 else
 Ld (.int .i64) w17 (a16.add 2) fun x31 =>
 (bif (decide (x31 > 0)) then
 J18 true w17
 else
 Ld (.int .i64) w17 (a16.add 5) fun x32 =>
 c_ref03_Host x32 w17 fun r33 w34 =>
 (bif (!r33) then
 J18 true w34
 else
 Ld (.int .i64) w34 (a16.add 6) fun x35 =>
 c_ref03_Host x35 w34 fun r36 w37 =>
 J18 (!r36) w37))))
theorem e_ref28_May (a0 : SliceV) (w : World) (K : Bool → World → Prop) : den Try.prog 47 (bodyOf Try.f35) none (.seq .leaf (.seq .leaf (.seq (.seq .leaf (.cond (.seq .leaf .leaf) .leaf)) (.seq .leaf .leaf)))) (argEnv 0 [(Value.slice a0.a a0.len a0.cap)]) [] w (retK Try.prog [.tmp 2] [.one .bool] K) = s_ref28_May a0 w K := by kernel_rfl
theorem ok_ref28_May {a0 w K} (h : s_ref28_May a0 w K) : c_ref28_May a0 w K :=
  fn_sound pok Try.func35 (fn := Try.f35) (c := bodyOf Try.f35) (nt := 47) (by kernel_rfl) (by kernel_rfl) (rs := [.tmp 2]) (by kernel_rfl) [.one .bool] K (.seq .leaf (.seq .leaf (.seq (.seq .leaf (.cond (.seq .leaf .leaf) .leaf)) (.seq .leaf .leaf)))) [(Value.slice a0.a a0.len a0.cap)] (by kernel_rfl) w ((e_ref28_May a0 w K).mpr h)

/-- goosepond/icmp.Parse -/
def s_icmp_Parse (a0 : SliceV) (w : World) (K : Int → Int → Int → SliceV → Int → World → Prop) : Prop :=
 (Al w (.cells ⟨[(Value.int .i64 0), (Value.int .i64 0), (Value.int .i64 0), (Value.slice none 0 0)]⟩ 45) fun a3 w2 =>
 (bif (decide ((a0.len : Int) < 8)) then
 StN [(Value.int .i64 0), (Value.int .i64 0), (Value.int .i64 0), (Value.slice none 0 0)] w2 a3 0 fun w4 =>
 Ld (.int .i64) w4 (a3.add 0) fun y5 =>
 Ld (.int .i64) w4 (a3.add 1) fun y6 =>
 Ld (.int .i64) w4 (a3.add 2) fun y7 =>
 Ld .slice w4 (a3.add 3) fun y8 =>
 K y5 y6 y7 y8 3 w4
 else
 (bif (decide ((a0.len : Int) > 65535)) then
 StN [(Value.int .i64 0), (Value.int .i64 0), (Value.int .i64 0), (Value.slice none 0 0)] w2 a3 0 fun w9 =>
 Ld (.int .i64) w9 (a3.add 0) fun y10 =>
 Ld (.int .i64) w9 (a3.add 1) fun y11 =>
 Ld (.int .i64) w9 (a3.add 2) fun y12 =>
 Ld .slice w9 (a3.add 3) fun y13 =>
 K y10 y11 y12 y13 6 w9
 else
 Al w2 (.cells ⟨[(Value.slice a0.a a0.len a0.cap)]⟩ 22) fun a15 w14 =>
 c_sum_Right ⟨(some a15), 1, 1⟩ w14 fun r16 w17 =>
 (bif (!r16) then
 StN [(Value.int .i64 0), (Value.int .i64 0), (Value.int .i64 0), (Value.slice none 0 0)] w17 a3 0 fun w18 =>
 Ld (.int .i64) w18 (a3.add 0) fun y19 =>
 Ld (.int .i64) w18 (a3.add 1) fun y20 =>
 Ld (.int .i64) w18 (a3.add 2) fun y21 =>
 Ld .slice w18 (a3.add 3) fun y22 =>
 K y19 y20 y21 y22 5 w18
 else
 c_be_Get a0 4 4 w17 fun r23 r24 w25 =>
 AtIx a0 1 0 fun a26 =>
 Ld (.int .u8) w25.drew a26 fun x27 =>
 AtIx a0 1 1 fun a28 =>
 Ld (.int .u8) w25.drew a28 fun x29 =>
 SubSl a0 1 8 (a0.len : Int) fun s30 =>
 c_slices_Clone_byte_byte s30 w25.drew fun r31 w32 =>
 w32.cell? a28 = some (Value.int .u8 x29) ∧
 w32.cell? a26 = some (Value.int .u8 x27) ∧
 StN [(Value.int .i64 (IntKind.i64.wrap x27)), (Value.int .i64 (IntKind.i64.wrap x29)), (Value.int .i64 r23), (Value.slice r31.a r31.len r31.cap)] w32 a3 0 fun w33 =>
 Ld (.int .i64) w33 (a3.add 0) fun y34 =>
 Ld (.int .i64) w33 (a3.add 1) fun y35 =>
 Ld (.int .i64) w33 (a3.add 2) fun y36 =>
 Ld .slice w33 (a3.add 3) fun y37 =>
 K y34 y35 y36 y37 0 w33))))
theorem e_icmp_Parse (a0 : SliceV) (w : World) (K : Int → Int → Int → SliceV → Int → World → Prop) : den Try.prog 40 (bodyOf Try.f36) none (.seq .leaf (.seq (.blk (.seq .leaf (.cond (.seq .leaf .leaf) (.seq .leaf (.cond (.seq .leaf .leaf) (.seq .leaf (.cond (.seq .leaf .leaf) .leaf))))))) (.seq .leaf (.seq .leaf .leaf)))) (argEnv 0 [(Value.slice a0.a a0.len a0.cap)]) [] w (retK Try.prog [.cell 2 45, .tmp 3] [.agg [(.int .i64), (.int .i64), (.int .i64), .slice], .one (.int .i64)] K) = s_icmp_Parse a0 w K := by kernel_rfl
theorem ok_icmp_Parse {a0 w K} (h : s_icmp_Parse a0 w K) : c_icmp_Parse a0 w K :=
  fn_sound pok Try.func36 (fn := Try.f36) (c := bodyOf Try.f36) (nt := 40) (by kernel_rfl) (by kernel_rfl) (rs := [.cell 2 45, .tmp 3]) (by kernel_rfl) [.agg [(.int .i64), (.int .i64), (.int .i64), .slice], .one (.int .i64)] K (.seq .leaf (.seq (.blk (.seq .leaf (.cond (.seq .leaf .leaf) (.seq .leaf (.cond (.seq .leaf .leaf) (.seq .leaf (.cond (.seq .leaf .leaf) .leaf))))))) (.seq .leaf (.seq .leaf .leaf)))) [(Value.slice a0.a a0.len a0.cap)] (by kernel_rfl) w ((e_icmp_Parse a0 w K).mpr h)

/-- goosepond/errs.Most -/
def s_errs_Most  (w : World) (K : Int → World → Prop) : Prop :=
 (K 548 w)
theorem e_errs_Most  (w : World) (K : Int → World → Prop) : den Try.prog 1 (bodyOf Try.f37) none (.seq .leaf (.seq .leaf .leaf)) (argEnv 0 []) [] w (retK Try.prog [.tmp 0] [.one (.int .i64)] K) = s_errs_Most  w K := by kernel_rfl
theorem ok_errs_Most { w K} (h : s_errs_Most  w K) : c_errs_Most  w K :=
  fn_sound pok Try.func37 (fn := Try.f37) (c := bodyOf Try.f37) (nt := 1) (by kernel_rfl) (by kernel_rfl) (rs := [.tmp 0]) (by kernel_rfl) [.one (.int .i64)] K (.seq .leaf (.seq .leaf .leaf)) [] (by kernel_rfl) w ((e_errs_Most  w K).mpr h)

/-- bytes.HasPrefix -/
def s_bytes_HasPrefix (a0 : SliceV) (a1 : SliceV) (w : World) (K : Bool → World → Prop) : Prop :=
 (let J3 : Bool → World → Prop := fun j4 w5 =>
 (K j4 w5)
 (bif (decide ((a0.len : Int) ≥ (a1.len : Int))) then
 SubSl a0 1 0 (a1.len : Int) fun s6 =>
 c_bytes_Equal s6 a1 w fun r7 w8 =>
 J3 r7 w8
 else
 J3 false w))
theorem e_bytes_HasPrefix (a0 : SliceV) (a1 : SliceV) (w : World) (K : Bool → World → Prop) : den Try.prog 18 (bodyOf Try.f38) none (.seq .leaf (.seq .leaf .leaf)) (argEnv 0 [(Value.slice a0.a a0.len a0.cap), (Value.slice a1.a a1.len a1.cap)]) [] w (retK Try.prog [.tmp 4] [.one .bool] K) = s_bytes_HasPrefix a0 a1 w K := by kernel_rfl
theorem ok_bytes_HasPrefix {a0 a1 w K} (h : s_bytes_HasPrefix a0 a1 w K) : c_bytes_HasPrefix a0 a1 w K :=
  fn_sound pok Try.func38 (fn := Try.f38) (c := bodyOf Try.f38) (nt := 18) (by kernel_rfl) (by kernel_rfl) (rs := [.tmp 4]) (by kernel_rfl) [.one .bool] K (.seq .leaf (.seq .leaf .leaf)) [(Value.slice a0.a a0.len a0.cap), (Value.slice a1.a a1.len a1.cap)] (by kernel_rfl) w ((e_bytes_HasPrefix a0 a1 w K).mpr h)

/-- goosepond/icmp.Fault -/
def s_icmp_Fault (a0 : Int) (w : World) (K : Bool → World → Prop) : Prop :=
 (Al w (.cells ⟨[(Value.int .i64 3), (Value.int .i64 4), (Value.int .i64 5), (Value.int .i64 11), (Value.int .i64 12)]⟩ 3) fun a3 w2 =>
 c_icmp_one a0 ⟨(some a3), 5, 5⟩ w2 fun r4 w5 =>
 K r4 w5)
theorem e_icmp_Fault (a0 : Int) (w : World) (K : Bool → World → Prop) : den Try.prog 6 (bodyOf Try.f39) none (.seq .leaf (.seq .leaf .leaf)) (argEnv 0 [(Value.int .i64 a0)]) [] w (retK Try.prog [.tmp 2] [.one .bool] K) = s_icmp_Fault a0 w K := by kernel_rfl
theorem ok_icmp_Fault {a0 w K} (h : s_icmp_Fault a0 w K) : c_icmp_Fault a0 w K :=
  fn_sound pok Try.func39 (fn := Try.f39) (c := bodyOf Try.f39) (nt := 6) (by kernel_rfl) (by kernel_rfl) (rs := [.tmp 2]) (by kernel_rfl) [.one .bool] K (.seq .leaf (.seq .leaf .leaf)) [(Value.int .i64 a0)] (by kernel_rfl) w ((e_icmp_Fault a0 w K).mpr h)

/-- goosepond/goosepondplain.Datagram -/
def s_plain_Datagram (a0 : Int) (a1 : Int) (a2 : Int) (a3 : Int) (a4 : Int) (a5 : SliceV) (w : World) (K : SliceV → World → Prop) : Prop :=
 (c_ref07_Build a0 a1 a2 a3 false a5 w fun r7 r8 w9 =>
 c_ref05_Build 0 0 0 a4 17 a0 a1 false false ⟨none, 0, 0⟩ r7 w9 fun r10 r11 w12 =>
 K r10 w12)
theorem e_plain_Datagram (a0 : Int) (a1 : Int) (a2 : Int) (a3 : Int) (a4 : Int) (a5 : SliceV) (w : World) (K : SliceV → World → Prop) : den Try.prog 37 (bodyOf Try.f58) none (.seq .leaf (.seq .leaf (.seq .leaf (.seq .leaf .leaf)))) (argEnv 0 [(Value.int .i64 a0), (Value.int .i64 a1), (Value.int .i64 a2), (Value.int .i64 a3), (Value.int .i64 a4), (Value.slice a5.a a5.len a5.cap)]) [] w (retK Try.prog [.tmp 12] [.one .slice] K) = s_plain_Datagram a0 a1 a2 a3 a4 a5 w K := by kernel_rfl
theorem ok_plain_Datagram {a0 a1 a2 a3 a4 a5 w K} (h : s_plain_Datagram a0 a1 a2 a3 a4 a5 w K) : c_plain_Datagram a0 a1 a2 a3 a4 a5 w K :=
  fn_sound pok Try.func58 (fn := Try.f58) (c := bodyOf Try.f58) (nt := 37) (by kernel_rfl) (by kernel_rfl) (rs := [.tmp 12]) (by kernel_rfl) [.one .slice] K (.seq .leaf (.seq .leaf (.seq .leaf (.seq .leaf .leaf)))) [(Value.int .i64 a0), (Value.int .i64 a1), (Value.int .i64 a2), (Value.int .i64 a3), (Value.int .i64 a4), (Value.slice a5.a a5.len a5.cap)] (by kernel_rfl) w ((e_plain_Datagram a0 a1 a2 a3 a4 a5 w K).mpr h)

/-- goosepond/errs.open -/
def s_errs_open (a0 : SliceV) (w : World) (K : Int → Int → Int → Int → Int → Int → Int → Bool → Bool → SliceV → SliceV → Bool → World → Prop) : Prop :=
 (Al w (.cells ⟨[(Value.int .i64 0), (Value.int .i64 0), (Value.int .i64 0), (Value.int .i64 0), (Value.int .i64 0), (Value.int .i64 0), (Value.int .i64 0), (Value.bool false), (Value.bool false), (Value.slice none 0 0), (Value.slice none 0 0)]⟩ 25) fun a3 w2 =>
 c_v4_Quoted a0 w2 fun r4 r5 r6 r7 r8 r9 r10 r11 r12 r13 r14 r15 w16 =>
 Al w16 (.cells ⟨[(Value.int .i64 0), (Value.int .i64 0), (Value.int .i64 0), (Value.int .i64 0), (Value.int .i64 0), (Value.int .i64 0), (Value.int .i64 0), (Value.bool false), (Value.bool false), (Value.slice none 0 0), (Value.slice none 0 0)]⟩ 25) fun a18 w17 =>
 StN [(Value.int .i64 r4), (Value.int .i64 r5), (Value.int .i64 r6), (Value.int .i64 r7), (Value.int .i64 r8), (Value.int .i64 r9), (Value.int .i64 r10), (Value.bool r11), (Value.bool r12), (Value.slice r13.a r13.len r13.cap), (Value.slice r14.a r14.len r14.cap)] w17 a18 0 fun w19 =>
 let J20 : Bool → Prop := fun j21 =>
 ((bif j21 then
 StN [(Value.int .i64 0), (Value.int .i64 0), (Value.int .i64 0), (Value.int .i64 0), (Value.int .i64 0), (Value.int .i64 0), (Value.int .i64 0), (Value.bool false), (Value.bool false), (Value.slice none 0 0), (Value.slice none 0 0)] w19 a3 0 fun w22 =>
 Ld (.int .i64) w22 (a3.add 0) fun y23 =>
 Ld (.int .i64) w22 (a3.add 1) fun y24 =>
 Ld (.int .i64) w22 (a3.add 2) fun y25 =>
 Ld (.int .i64) w22 (a3.add 3) fun y26 =>
 Ld (.int .i64) w22 (a3.add 4) fun y27 =>
 Ld (.int .i64) w22 (a3.add 5) fun y28 =>
 Ld (.int .i64) w22 (a3.add 6) fun y29 =>
 Ld .bool w22 (a3.add 7) fun y30 =>
 Ld .bool w22 (a3.add 8) fun y31 =>
 Ld .slice w22 (a3.add 9) fun y32 =>
 Ld .slice w22 (a3.add 10) fun y33 =>
 K y23 y24 y25 y26 y27 y28 y29 y30 y31 y32 y33 false w22
 else
 let J34 : Bool → World → Prop := fun j35 w36 =>
 ((bif j35 then
 StN [(Value.int .i64 0), (Value.int .i64 0), (Value.int .i64 0), (Value.int .i64 0), (Value.int .i64 0), (Value.int .i64 0), (Value.int .i64 0), (Value.bool false), (Value.bool false), (Value.slice none 0 0), (Value.slice none 0 0)] w36 a3 0 fun w37 =>
 Ld (.int .i64) w37 (a3.add 0) fun y38 =>
 Ld (.int .i64) w37 (a3.add 1) fun y39 =>
 Ld (.int .i64) w37 (a3.add 2) fun y40 =>
 Ld (.int .i64) w37 (a3.add 3) fun y41 =>
 Ld (.int .i64) w37 (a3.add 4) fun y42 =>
 Ld (.int .i64) w37 (a3.add 5) fun y43 =>
 Ld (.int .i64) w37 (a3.add 6) fun y44 =>
 Ld .bool w37 (a3.add 7) fun y45 =>
 Ld .bool w37 (a3.add 8) fun y46 =>
 Ld .slice w37 (a3.add 9) fun y47 =>
 Ld .slice w37 (a3.add 10) fun y48 =>
 K y38 y39 y40 y41 y42 y43 y44 y45 y46 y47 y48 false w37
 else
 Ld (.int .i64) w36.drew (a18.add 0) fun x49 =>
 Ld (.int .i64) w36.drew (a18.add 1) fun x50 =>
 Ld (.int .i64) w36.drew (a18.add 2) fun x51 =>
 Ld (.int .i64) w36.drew (a18.add 3) fun x52 =>
 Ld (.int .i64) w36.drew (a18.add 4) fun x53 =>
 Ld (.int .i64) w36.drew (a18.add 5) fun x54 =>
 Ld (.int .i64) w36.drew (a18.add 6) fun x55 =>
 Ld .bool w36.drew (a18.add 7) fun x56 =>
 Ld .bool w36.drew (a18.add 8) fun x57 =>
 Ld .slice w36.drew (a18.add 9) fun x58 =>
 Ld .slice w36.drew (a18.add 10) fun x59 =>
 Ld (.int .i64) w36.drew (a18.add 0) fun x60 =>
 Ld (.int .i64) w36.drew (a18.add 1) fun x61 =>
 Ld (.int .i64) w36.drew (a18.add 2) fun x62 =>
 Ld (.int .i64) w36.drew (a18.add 3) fun x63 =>
 Ld (.int .i64) w36.drew (a18.add 4) fun x64 =>
 Ld (.int .i64) w36.drew (a18.add 5) fun x65 =>
 Ld (.int .i64) w36.drew (a18.add 6) fun x66 =>
 Ld .bool w36.drew (a18.add 7) fun x67 =>
 Ld .bool w36.drew (a18.add 8) fun x68 =>
 Ld .slice w36.drew (a18.add 9) fun x69 =>
 Ld .slice w36.drew (a18.add 10) fun x70 =>
 c_errs_plain x60 x61 x62 x63 x64 x65 x66 x67 x68 x69 x70 w36.drew fun r71 w72 =>
 w72.cell? (a18.add 0) = some (Value.int .i64 x49) ∧
 w72.cell? (a18.add 1) = some (Value.int .i64 x50) ∧
 w72.cell? (a18.add 2) = some (Value.int .i64 x51) ∧
 w72.cell? (a18.add 3) = some (Value.int .i64 x52) ∧
 w72.cell? (a18.add 4) = some (Value.int .i64 x53) ∧
 w72.cell? (a18.add 5) = some (Value.int .i64 x54) ∧
 w72.cell? (a18.add 6) = some (Value.int .i64 x55) ∧
 w72.cell? (a18.add 7) = some (Value.bool x56) ∧
 w72.cell? (a18.add 8) = some (Value.bool x57) ∧
 w72.cell? (a18.add 9) = some (Value.slice x58.a x58.len x58.cap) ∧
 w72.cell? (a18.add 10) = some (Value.slice x59.a x59.len x59.cap) ∧
 StN [(Value.int .i64 x49), (Value.int .i64 x50), (Value.int .i64 x51), (Value.int .i64 x52), (Value.int .i64 x53), (Value.int .i64 x54), (Value.int .i64 x55), (Value.bool x56), (Value.bool x57), (Value.slice x58.a x58.len x58.cap), (Value.slice x59.a x59.len x59.cap)] w72 a3 0 fun w73 =>
 Ld (.int .i64) w73 (a3.add 0) fun y74 =>
 Ld (.int .i64) w73 (a3.add 1) fun y75 =>
 Ld (.int .i64) w73 (a3.add 2) fun y76 =>
 Ld (.int .i64) w73 (a3.add 3) fun y77 =>
 Ld (.int .i64) w73 (a3.add 4) fun y78 =>
 Ld (.int .i64) w73 (a3.add 5) fun y79 =>
 Ld (.int .i64) w73 (a3.add 6) fun y80 =>
 Ld .bool w73 (a3.add 7) fun y81 =>
 Ld .bool w73 (a3.add 8) fun y82 =>
 Ld .slice w73 (a3.add 9) fun y83 =>
 Ld .slice w73 (a3.add 10) fun y84 =>
 K y74 y75 y76 y77 y78 y79 y80 y81 y82 y83 y84 r71 w73))
 Ld (.int .i64) w19 (a18.add 5) fun x85 =>
 c_four_Host x85 w19 fun r86 w87 =>
 (bif (!r86) then
 J34 (!r86) w87
 else
 Ld (.int .i64) w87 (a18.add 6) fun x88 =>
 c_four_Host x88 w87 fun r89 w90 =>
 J34 (!r89) w90)))
 (bif (r15 != 0) then
 J20 (r15 != 0)
 else
 Ld (.int .i64) w19 (a18.add 2) fun x91 =>
 J20 (decide (x91 > 0))))
theorem e_errs_open (a0 : SliceV) (w : World) (K : Int → Int → Int → Int → Int → Int → Int → Bool → Bool → SliceV → SliceV → Bool → World → Prop) : den Try.prog 31 (bodyOf Try.f59) none (.seq .leaf (.seq .leaf (.seq (.blk (.seq (.seq .leaf (.cond .leaf .leaf)) (.cond (.seq .leaf .leaf) (.seq (.seq .leaf (.cond .leaf .leaf)) (.cond (.seq .leaf .leaf) .leaf))))) (.seq .leaf .leaf)))) (argEnv 0 [(Value.slice a0.a a0.len a0.cap)]) [] w (retK Try.prog [.cell 2 25, .tmp 3] [.agg [(.int .i64), (.int .i64), (.int .i64), (.int .i64), (.int .i64), (.int .i64), (.int .i64), .bool, .bool, .slice, .slice], .one .bool] K) = s_errs_open a0 w K := by kernel_rfl
theorem ok_errs_open {a0 w K} (h : s_errs_open a0 w K) : c_errs_open a0 w K :=
  fn_sound pok Try.func59 (fn := Try.f59) (c := bodyOf Try.f59) (nt := 31) (by kernel_rfl) (by kernel_rfl) (rs := [.cell 2 25, .tmp 3]) (by kernel_rfl) [.agg [(.int .i64), (.int .i64), (.int .i64), (.int .i64), (.int .i64), (.int .i64), (.int .i64), .bool, .bool, .slice, .slice], .one .bool] K (.seq .leaf (.seq .leaf (.seq (.blk (.seq (.seq .leaf (.cond .leaf .leaf)) (.cond (.seq .leaf .leaf) (.seq (.seq .leaf (.cond .leaf .leaf)) (.cond (.seq .leaf .leaf) .leaf))))) (.seq .leaf .leaf)))) [(Value.slice a0.a a0.len a0.cap)] (by kernel_rfl) w ((e_errs_open a0 w K).mpr h)

/-- goosepond/errs.quote -/
def s_errs_quote (a0 : SliceV) (a1_0 : Int) (a1_1 : Int) (a1_2 : Int) (a1_3 : Int) (a1_4 : Int) (a1_5 : Int) (a1_6 : Int) (a1_7 : Bool) (a1_8 : Bool) (a1_9 : SliceV) (a1_10 : SliceV) (w : World) (K : SliceV → World → Prop) : Prop :=
 (Al w (.cells ⟨[(Value.int .i64 a1_0), (Value.int .i64 a1_1), (Value.int .i64 a1_2), (Value.int .i64 a1_3), (Value.int .i64 a1_4), (Value.int .i64 a1_5), (Value.int .i64 a1_6), (Value.bool a1_7), (Value.bool a1_8), (Value.slice a1_9.a a1_9.len a1_9.cap), (Value.slice a1_10.a a1_10.len a1_10.cap)]⟩ 25) fun a4 w3 =>
 Ld (.int .i64) w3 (a4.add 0) fun x5 =>
 Ld (.int .i64) w3 (a4.add 1) fun x6 =>
 Ld (.int .i64) w3 (a4.add 2) fun x7 =>
 Ld (.int .i64) w3 (a4.add 3) fun x8 =>
 Ld (.int .i64) w3 (a4.add 4) fun x9 =>
 Ld (.int .i64) w3 (a4.add 5) fun x10 =>
 Ld (.int .i64) w3 (a4.add 6) fun x11 =>
 Ld .bool w3 (a4.add 7) fun x12 =>
 Ld .bool w3 (a4.add 8) fun x13 =>
 Ld .slice w3 (a4.add 9) fun x14 =>
 Ld .slice w3 (a4.add 10) fun x15 =>
 c_v4_Size x5 x6 x7 x8 x9 x10 x11 x12 x13 x14 x15 w3 fun r16 w17 =>
 SubSl a0 1 0 (if (548 : Int) < r16 then 548 else r16) fun s18 =>
 c_slices_Clone_byte_byte s18 w17 fun r19 w20 =>
 K r19 w20)
theorem e_errs_quote (a0 : SliceV) (a1_0 : Int) (a1_1 : Int) (a1_2 : Int) (a1_3 : Int) (a1_4 : Int) (a1_5 : Int) (a1_6 : Int) (a1_7 : Bool) (a1_8 : Bool) (a1_9 : SliceV) (a1_10 : SliceV) (w : World) (K : SliceV → World → Prop) : den Try.prog 11 (bodyOf Try.f60) none (.seq .leaf (.seq .leaf .leaf)) (argEnv 0 [(Value.slice a0.a a0.len a0.cap), (Value.agg ⟨[(Value.int .i64 a1_0), (Value.int .i64 a1_1), (Value.int .i64 a1_2), (Value.int .i64 a1_3), (Value.int .i64 a1_4), (Value.int .i64 a1_5), (Value.int .i64 a1_6), (Value.bool a1_7), (Value.bool a1_8), (Value.slice a1_9.a a1_9.len a1_9.cap), (Value.slice a1_10.a a1_10.len a1_10.cap)]⟩)]) [] w (retK Try.prog [.tmp 4] [.one .slice] K) = s_errs_quote a0 a1_0 a1_1 a1_2 a1_3 a1_4 a1_5 a1_6 a1_7 a1_8 a1_9 a1_10 w K := by kernel_rfl
theorem ok_errs_quote {a0 a1_0 a1_1 a1_2 a1_3 a1_4 a1_5 a1_6 a1_7 a1_8 a1_9 a1_10 w K} (h : s_errs_quote a0 a1_0 a1_1 a1_2 a1_3 a1_4 a1_5 a1_6 a1_7 a1_8 a1_9 a1_10 w K) : c_errs_quote a0 a1_0 a1_1 a1_2 a1_3 a1_4 a1_5 a1_6 a1_7 a1_8 a1_9 a1_10 w K :=
  fn_sound pok Try.func60 (fn := Try.f60) (c := bodyOf Try.f60) (nt := 11) (by kernel_rfl) (by kernel_rfl) (rs := [.tmp 4]) (by kernel_rfl) [.one .slice] K (.seq .leaf (.seq .leaf .leaf)) [(Value.slice a0.a a0.len a0.cap), (Value.agg ⟨[(Value.int .i64 a1_0), (Value.int .i64 a1_1), (Value.int .i64 a1_2), (Value.int .i64 a1_3), (Value.int .i64 a1_4), (Value.int .i64 a1_5), (Value.int .i64 a1_6), (Value.bool a1_7), (Value.bool a1_8), (Value.slice a1_9.a a1_9.len a1_9.cap), (Value.slice a1_10.a a1_10.len a1_10.cap)]⟩)] (by kernel_rfl) w ((e_errs_quote a0 a1_0 a1_1 a1_2 a1_3 a1_4 a1_5 a1_6 a1_7 a1_8 a1_9 a1_10 w K).mpr h)

/-- goosepond/icmp.Build -/
def s_icmp_Build (a0_0 : Int) (a0_1 : Int) (a0_2 : Int) (a0_3 : SliceV) (w : World) (K : SliceV → Int → World → Prop) : Prop :=
 (Al w (.cells ⟨[(Value.int .i64 a0_0), (Value.int .i64 a0_1), (Value.int .i64 a0_2), (Value.slice a0_3.a a0_3.len a0_3.cap)]⟩ 45) fun a3 w2 =>
 Ld (.int .i64) w2 (a3.add 0) fun x4 =>
 Ld (.int .i64) w2 (a3.add 1) fun x5 =>
 Ld (.int .i64) w2 (a3.add 2) fun x6 =>
 Ld .slice w2 (a3.add 3) fun x7 =>
 c_icmp_Check x4 x5 x6 x7 w2 fun r8 w9 =>
 (bif (r8 != 0) then
 K ⟨none, 0, 0⟩ r8 w9
 else
 Ld (.int .i64) w9 a3 fun x10 =>
 Ld (.int .i64) w9 (a3.add 1) fun x11 =>
 Al w9 (.cells ⟨[(Value.int .u8 (IntKind.u8.wrap x10)), (Value.int .u8 (IntKind.u8.wrap x11)), (Value.int .u8 0), (Value.int .u8 0)]⟩ 5) fun a13 w12 =>
 Ld (.int .i64) w12 (a3.add 2) fun x14 =>
 c_be_Put ⟨(some a13), 4, 4⟩ x14 4 w12 fun r15 w16 =>
 Ld .slice w16 (a3.add 3) fun x17 =>
 AppSl 5 1 1 [(Value.int .u8 0)] r15 x17 w16 fun s18 w19 =>
 Al w19 (.cells ⟨[(Value.slice s18.a s18.len s18.cap)]⟩ 22) fun a21 w20 =>
 c_sum_Of ⟨(some a21), 1, 1⟩ w20 fun r22 w23 =>
 c_be_Set s18 2 r22 2 w23 fun r24 r25 w26 =>
 K r24 r25 w26))
theorem e_icmp_Build (a0_0 : Int) (a0_1 : Int) (a0_2 : Int) (a0_3 : SliceV) (w : World) (K : SliceV → Int → World → Prop) : den Try.prog 32 (bodyOf Try.f61) none (.seq .leaf (.seq (.seq .leaf (.seq .leaf (.cond (.seq .leaf .leaf) .leaf))) (.seq .leaf (.seq .leaf (.seq .leaf .leaf))))) (argEnv 0 [(Value.agg ⟨[(Value.int .i64 a0_0), (Value.int .i64 a0_1), (Value.int .i64 a0_2), (Value.slice a0_3.a a0_3.len a0_3.cap)]⟩)]) [] w (retK Try.prog [.tmp 2, .tmp 3] [.one .slice, .one (.int .i64)] K) = s_icmp_Build a0_0 a0_1 a0_2 a0_3 w K := by kernel_rfl
theorem ok_icmp_Build {a0_0 a0_1 a0_2 a0_3 w K} (h : s_icmp_Build a0_0 a0_1 a0_2 a0_3 w K) : c_icmp_Build a0_0 a0_1 a0_2 a0_3 w K :=
  fn_sound pok Try.func61 (fn := Try.f61) (c := bodyOf Try.f61) (nt := 32) (by kernel_rfl) (by kernel_rfl) (rs := [.tmp 2, .tmp 3]) (by kernel_rfl) [.one .slice, .one (.int .i64)] K (.seq .leaf (.seq (.seq .leaf (.seq .leaf (.cond (.seq .leaf .leaf) .leaf))) (.seq .leaf (.seq .leaf (.seq .leaf .leaf))))) [(Value.agg ⟨[(Value.int .i64 a0_0), (Value.int .i64 a0_1), (Value.int .i64 a0_2), (Value.slice a0_3.a a0_3.len a0_3.cap)]⟩)] (by kernel_rfl) w ((e_icmp_Build a0_0 a0_1 a0_2 a0_3 w K).mpr h)

/-- goosepond/goosepondref09.Build -/
def s_ref09_Build (a0_0 : Int) (a0_1 : Int) (a0_2 : Int) (a0_3 : SliceV) (w : World) (K : SliceV → Int → World → Prop) : Prop :=
 (Al w (.cells ⟨[(Value.int .i64 a0_0), (Value.int .i64 a0_1), (Value.int .i64 a0_2), (Value.slice a0_3.a a0_3.len a0_3.cap)]⟩ 45) fun a3 w2 =>
 Ld (.int .i64) w2 (a3.add 0) fun x4 =>
 Ld (.int .i64) w2 (a3.add 1) fun x5 =>
 Ld (.int .i64) w2 (a3.add 2) fun x6 =>
 Ld .slice w2 (a3.add 3) fun x7 =>
 c_ref09_Check x4 x5 x6 x7 w2 fun r8 w9 =>
 (bif (r8 != 0) then
 K ⟨none, 0, 0⟩ r8 w9
 else
 Ld (.int .i64) w9.drew (a3.add 0) fun x10 =>
 Ld (.int .i64) w9.drew (a3.add 1) fun x11 =>
 Ld (.int .i64) w9.drew (a3.add 2) fun x12 =>
 Ld .slice w9.drew (a3.add 3) fun x13 =>
 Ld (.int .i64) w9.drew (a3.add 0) fun x14 =>
 Ld (.int .i64) w9.drew (a3.add 1) fun x15 =>
 Ld (.int .i64) w9.drew (a3.add 2) fun x16 =>
 Ld .slice w9.drew (a3.add 3) fun x17 =>
 c_ref09_Bytes x14 x15 x16 x17 0 w9.drew fun r18 w19 =>
 w19.cell? (a3.add 0) = some (Value.int .i64 x10) ∧
 w19.cell? (a3.add 1) = some (Value.int .i64 x11) ∧
 w19.cell? (a3.add 2) = some (Value.int .i64 x12) ∧
 w19.cell? (a3.add 3) = some (Value.slice x13.a x13.len x13.cap) ∧
 Al w19 (.cells ⟨[(Value.slice r18.a r18.len r18.cap)]⟩ 22) fun a21 w20 =>
 w20.cell? (a3.add 0) = some (Value.int .i64 x10) ∧
 w20.cell? (a3.add 1) = some (Value.int .i64 x11) ∧
 w20.cell? (a3.add 2) = some (Value.int .i64 x12) ∧
 w20.cell? (a3.add 3) = some (Value.slice x13.a x13.len x13.cap) ∧
 c_ref02_Of ⟨(some a21), 1, 1⟩ w20 fun r22 w23 =>
 w23.cell? (a3.add 0) = some (Value.int .i64 x10) ∧
 w23.cell? (a3.add 1) = some (Value.int .i64 x11) ∧
 w23.cell? (a3.add 2) = some (Value.int .i64 x12) ∧
 w23.cell? (a3.add 3) = some (Value.slice x13.a x13.len x13.cap) ∧
 c_ref09_Bytes x10 x11 x12 x13 r22 w23 fun r24 w25 =>
 K r24 0 w25))
theorem e_ref09_Build (a0_0 : Int) (a0_1 : Int) (a0_2 : Int) (a0_3 : SliceV) (w : World) (K : SliceV → Int → World → Prop) : den Try.prog 16 (bodyOf Try.f62) none (.seq .leaf (.seq (.seq .leaf (.seq .leaf (.cond (.seq .leaf .leaf) .leaf))) (.seq .leaf .leaf))) (argEnv 0 [(Value.agg ⟨[(Value.int .i64 a0_0), (Value.int .i64 a0_1), (Value.int .i64 a0_2), (Value.slice a0_3.a a0_3.len a0_3.cap)]⟩)]) [] w (retK Try.prog [.tmp 2, .tmp 3] [.one .slice, .one (.int .i64)] K) = s_ref09_Build a0_0 a0_1 a0_2 a0_3 w K := by kernel_rfl
theorem ok_ref09_Build {a0_0 a0_1 a0_2 a0_3 w K} (h : s_ref09_Build a0_0 a0_1 a0_2 a0_3 w K) : c_ref09_Build a0_0 a0_1 a0_2 a0_3 w K :=
  fn_sound pok Try.func62 (fn := Try.f62) (c := bodyOf Try.f62) (nt := 16) (by kernel_rfl) (by kernel_rfl) (rs := [.tmp 2, .tmp 3]) (by kernel_rfl) [.one .slice, .one (.int .i64)] K (.seq .leaf (.seq (.seq .leaf (.seq .leaf (.cond (.seq .leaf .leaf) .leaf))) (.seq .leaf .leaf))) [(Value.agg ⟨[(Value.int .i64 a0_0), (Value.int .i64 a0_1), (Value.int .i64 a0_2), (Value.slice a0_3.a a0_3.len a0_3.cap)]⟩)] (by kernel_rfl) w ((e_ref09_Build a0_0 a0_1 a0_2 a0_3 w K).mpr h)

/-- goosepond/goosepondref03.Host -/
def s_ref03_Host (a0 : Int) (w : World) (K : Bool → World → Prop) : Prop :=
 (let J2 : Bool → Prop := fun j3 =>
 (K j3 w)
 (bif (decide (a0 ≥ 16777216)) then
 (bif (decide (a0 < 3758096384)) then
 (16777216 : Int) ≠ 0 ∧
 J2 ((IntKind.i64.wrap (Int.tdiv a0 16777216)) != 127)
 else
 J2 false)
 else
 J2 false))
theorem e_ref03_Host (a0 : Int) (w : World) (K : Bool → World → Prop) : den Try.prog 14 (bodyOf Try.f63) none (.seq .leaf (.seq .leaf .leaf)) (argEnv 0 [(Value.int .i64 a0)]) [] w (retK Try.prog [.tmp 2] [.one .bool] K) = s_ref03_Host a0 w K := by kernel_rfl
theorem ok_ref03_Host {a0 w K} (h : s_ref03_Host a0 w K) : c_ref03_Host a0 w K :=
  fn_sound pok Try.func63 (fn := Try.f63) (c := bodyOf Try.f63) (nt := 14) (by kernel_rfl) (by kernel_rfl) (rs := [.tmp 2]) (by kernel_rfl) [.one .bool] K (.seq .leaf (.seq .leaf .leaf)) [(Value.int .i64 a0)] (by kernel_rfl) w ((e_ref03_Host a0 w K).mpr h)

/-- goosepond/goosepondref09.Fault -/
def s_ref09_Fault (a0 : Int) (w : World) (K : Bool → World → Prop) : Prop :=
 (let J2 : Bool → Prop := fun j3 =>
 (K j3 w)
 (bif (decide (a0 ≥ 3)) then
 (bif (decide (a0 ≤ 5)) then
 J2 true
 else
 (bif (a0 == 11) then
 J2 true
 else
 J2 (a0 == 12)))
 else
 (bif (a0 == 11) then
 J2 true
 else
 J2 (a0 == 12))))
theorem e_ref09_Fault (a0 : Int) (w : World) (K : Bool → World → Prop) : den Try.prog 17 (bodyOf Try.f64) none (.seq .leaf (.seq .leaf .leaf)) (argEnv 0 [(Value.int .i64 a0)]) [] w (retK Try.prog [.tmp 2] [.one .bool] K) = s_ref09_Fault a0 w K := by kernel_rfl
theorem ok_ref09_Fault {a0 w K} (h : s_ref09_Fault a0 w K) : c_ref09_Fault a0 w K :=
  fn_sound pok Try.func64 (fn := Try.f64) (c := bodyOf Try.f64) (nt := 17) (by kernel_rfl) (by kernel_rfl) (rs := [.tmp 2]) (by kernel_rfl) [.one .bool] K (.seq .leaf (.seq .leaf .leaf)) [(Value.int .i64 a0)] (by kernel_rfl) w ((e_ref09_Fault a0 w K).mpr h)

/-- goosepond/icmp.one -/
def s_icmp_one (a0 : Int) (a1 : SliceV) (w : World) (K : Bool → World → Prop) : Prop :=
 (c_slices_Contains_int_int a1 a0 w fun r3 w4 =>
 K r3 w4)
theorem e_icmp_one (a0 : Int) (a1 : SliceV) (w : World) (K : Bool → World → Prop) : den Try.prog 8 (bodyOf Try.f67) none (.seq .leaf (.seq .leaf .leaf)) (argEnv 0 [(Value.int .i64 a0), (Value.slice a1.a a1.len a1.cap)]) [] w (retK Try.prog [.tmp 4] [.one .bool] K) = s_icmp_one a0 a1 w K := by kernel_rfl
theorem ok_icmp_one {a0 a1 w K} (h : s_icmp_one a0 a1 w K) : c_icmp_one a0 a1 w K :=
  fn_sound pok Try.func67 (fn := Try.f67) (c := bodyOf Try.f67) (nt := 8) (by kernel_rfl) (by kernel_rfl) (rs := [.tmp 4]) (by kernel_rfl) [.one .bool] K (.seq .leaf (.seq .leaf .leaf)) [(Value.int .i64 a0), (Value.slice a1.a a1.len a1.cap)] (by kernel_rfl) w ((e_icmp_one a0 a1 w K).mpr h)

/-- goosepond/goosepondref07.Build -/
def s_ref07_Build (a0 : Int) (a1 : Int) (a2_0 : Int) (a2_1 : Int) (a2_2 : Bool) (a2_3 : SliceV) (w : World) (K : SliceV → Int → World → Prop) : Prop :=
 (Al w (.cells ⟨[(Value.int .i64 a2_0), (Value.int .i64 a2_1), (Value.bool a2_2), (Value.slice a2_3.a a2_3.len a2_3.cap)]⟩ 94) fun a5 w4 =>
 Ld (.int .i64) w4 (a5.add 0) fun x6 =>
 Ld (.int .i64) w4 (a5.add 1) fun x7 =>
 Ld .bool w4 (a5.add 2) fun x8 =>
 Ld .slice w4 (a5.add 3) fun x9 =>
 c_ref07_Check x6 x7 x8 x9 w4 fun r10 w11 =>
 (bif (r10 != 0) then
 K ⟨none, 0, 0⟩ r10 w11
 else
 Ld (.int .i64) w11 (a5.add 0) fun x12 =>
 Ld (.int .i64) w11 (a5.add 1) fun x13 =>
 Ld .bool w11 (a5.add 2) fun x14 =>
 Ld .slice w11 (a5.add 3) fun x15 =>
 c_ref07_bytes x12 x13 x14 x15 0 w11 fun r16 w17 =>
 Ld .bool w17 (a5.add 2) fun x18 =>
 (bif x18 then
 K r16 0 w17
 else
 c_ref07_Pseudo a0 a1 17 (r16.len : Int) w17 fun r19 w20 =>
 Al w20 (.cells ⟨[(Value.slice r19.a r19.len r19.cap), (Value.slice r16.a r16.len r16.cap)]⟩ 22) fun a22 w21 =>
 c_ref02_Of ⟨(some a22), 2, 2⟩ w21 fun r23 w24 =>
 let J25 : Int → Prop := fun j26 =>
 (Ld (.int .i64) w24 (a5.add 0) fun x27 =>
 Ld (.int .i64) w24 (a5.add 1) fun x28 =>
 Ld .bool w24 (a5.add 2) fun x29 =>
 Ld .slice w24 (a5.add 3) fun x30 =>
 c_ref07_bytes x27 x28 x29 x30 j26 w24 fun r31 w32 =>
 K r31 0 w32)
 (bif (r23 == 0) then
 J25 65535
 else
 J25 r23))))
theorem e_ref07_Build (a0 : Int) (a1 : Int) (a2_0 : Int) (a2_1 : Int) (a2_2 : Bool) (a2_3 : SliceV) (w : World) (K : SliceV → Int → World → Prop) : den Try.prog 34 (bodyOf Try.f82) none (.seq .leaf (.seq (.seq .leaf (.seq .leaf (.cond (.seq .leaf .leaf) .leaf))) (.seq .leaf (.seq (.seq .leaf (.cond (.seq .leaf .leaf) .leaf)) (.seq .leaf (.seq (.seq .leaf (.cond .leaf .leaf)) (.seq .leaf .leaf))))))) (argEnv 0 [(Value.int .i64 a0), (Value.int .i64 a1), (Value.agg ⟨[(Value.int .i64 a2_0), (Value.int .i64 a2_1), (Value.bool a2_2), (Value.slice a2_3.a a2_3.len a2_3.cap)]⟩)]) [] w (retK Try.prog [.tmp 6, .tmp 7] [.one .slice, .one (.int .i64)] K) = s_ref07_Build a0 a1 a2_0 a2_1 a2_2 a2_3 w K := by kernel_rfl
theorem ok_ref07_Build {a0 a1 a2_0 a2_1 a2_2 a2_3 w K} (h : s_ref07_Build a0 a1 a2_0 a2_1 a2_2 a2_3 w K) : c_ref07_Build a0 a1 a2_0 a2_1 a2_2 a2_3 w K :=
  fn_sound pok Try.func82 (fn := Try.f82) (c := bodyOf Try.f82) (nt := 34) (by kernel_rfl) (by kernel_rfl) (rs := [.tmp 6, .tmp 7]) (by kernel_rfl) [.one .slice, .one (.int .i64)] K (.seq .leaf (.seq (.seq .leaf (.seq .leaf (.cond (.seq .leaf .leaf) .leaf))) (.seq .leaf (.seq (.seq .leaf (.cond (.seq .leaf .leaf) .leaf)) (.seq .leaf (.seq (.seq .leaf (.cond .leaf .leaf)) (.seq .leaf .leaf))))))) [(Value.int .i64 a0), (Value.int .i64 a1), (Value.agg ⟨[(Value.int .i64 a2_0), (Value.int .i64 a2_1), (Value.bool a2_2), (Value.slice a2_3.a a2_3.len a2_3.cap)]⟩)] (by kernel_rfl) w ((e_ref07_Build a0 a1 a2_0 a2_1 a2_2 a2_3 w K).mpr h)

/-- goosepond/four.Host -/
def s_four_Host (a0 : Int) (w : World) (K : Bool → World → Prop) : Prop :=
 (c_four_Right a0 w fun r2 w3 =>
 (bif (!r2) then
 K false w3
 else
 Al w3 (.cells ⟨[(Value.int .i64 0), (Value.int .i64 8), (Value.int .i64 2130706432), (Value.int .i64 8), (Value.int .i64 3758096384), (Value.int .i64 3)]⟩ 106) fun a5 w4 =>
 c_four_one a0 ⟨(some a5), 3, 3⟩ w4 fun r6 w7 =>
 K (!r6) w7))
theorem e_four_Host (a0 : Int) (w : World) (K : Bool → World → Prop) : den Try.prog 13 (bodyOf Try.f83) none (.seq .leaf (.seq (.seq .leaf (.cond (.seq .leaf .leaf) .leaf)) (.seq .leaf .leaf))) (argEnv 0 [(Value.int .i64 a0)]) [] w (retK Try.prog [.tmp 2] [.one .bool] K) = s_four_Host a0 w K := by kernel_rfl
theorem ok_four_Host {a0 w K} (h : s_four_Host a0 w K) : c_four_Host a0 w K :=
  fn_sound pok Try.func83 (fn := Try.f83) (c := bodyOf Try.f83) (nt := 13) (by kernel_rfl) (by kernel_rfl) (rs := [.tmp 2]) (by kernel_rfl) [.one .bool] K (.seq .leaf (.seq (.seq .leaf (.cond (.seq .leaf .leaf) .leaf)) (.seq .leaf .leaf))) [(Value.int .i64 a0)] (by kernel_rfl) w ((e_four_Host a0 w K).mpr h)

/-- goosepond/errs.plain -/
def s_errs_plain (a0_0 : Int) (a0_1 : Int) (a0_2 : Int) (a0_3 : Int) (a0_4 : Int) (a0_5 : Int) (a0_6 : Int) (a0_7 : Bool) (a0_8 : Bool) (a0_9 : SliceV) (a0_10 : SliceV) (w : World) (K : Bool → World → Prop) : Prop :=
 (Al w (.cells ⟨[(Value.int .i64 a0_0), (Value.int .i64 a0_1), (Value.int .i64 a0_2), (Value.int .i64 a0_3), (Value.int .i64 a0_4), (Value.int .i64 a0_5), (Value.int .i64 a0_6), (Value.bool a0_7), (Value.bool a0_8), (Value.slice a0_9.a a0_9.len a0_9.cap), (Value.slice a0_10.a a0_10.len a0_10.cap)]⟩ 25) fun a3 w2 =>
 Ld (.int .i64) w2 (a3.add 4) fun x4 =>
 (bif (x4 != 1) then
 K true w2
 else
 let J5 : Bool → World → Prop := fun j6 w7 =>
 (K j6 w7)
 Ld .slice w2 (a3.add 10) fun x8 =>
 (bif (decide ((x8.len : Int) > 0)) then
 Ld .slice w2 (a3.add 10) fun x9 =>
 AtIx x9 1 0 fun a10 =>
 Ld (.int .u8) w2 a10 fun x11 =>
 c_icmp_Fault (IntKind.i64.wrap x11) w2 fun r12 w13 =>
 J5 (!r12) w13
 else
 J5 false w2)))
theorem e_errs_plain (a0_0 : Int) (a0_1 : Int) (a0_2 : Int) (a0_3 : Int) (a0_4 : Int) (a0_5 : Int) (a0_6 : Int) (a0_7 : Bool) (a0_8 : Bool) (a0_9 : SliceV) (a0_10 : SliceV) (w : World) (K : Bool → World → Prop) : den Try.prog 19 (bodyOf Try.f84) none (.seq .leaf (.seq (.seq .leaf (.cond (.seq .leaf .leaf) .leaf)) (.seq .leaf .leaf))) (argEnv 0 [(Value.agg ⟨[(Value.int .i64 a0_0), (Value.int .i64 a0_1), (Value.int .i64 a0_2), (Value.int .i64 a0_3), (Value.int .i64 a0_4), (Value.int .i64 a0_5), (Value.int .i64 a0_6), (Value.bool a0_7), (Value.bool a0_8), (Value.slice a0_9.a a0_9.len a0_9.cap), (Value.slice a0_10.a a0_10.len a0_10.cap)]⟩)]) [] w (retK Try.prog [.tmp 2] [.one .bool] K) = s_errs_plain a0_0 a0_1 a0_2 a0_3 a0_4 a0_5 a0_6 a0_7 a0_8 a0_9 a0_10 w K := by kernel_rfl
theorem ok_errs_plain {a0_0 a0_1 a0_2 a0_3 a0_4 a0_5 a0_6 a0_7 a0_8 a0_9 a0_10 w K} (h : s_errs_plain a0_0 a0_1 a0_2 a0_3 a0_4 a0_5 a0_6 a0_7 a0_8 a0_9 a0_10 w K) : c_errs_plain a0_0 a0_1 a0_2 a0_3 a0_4 a0_5 a0_6 a0_7 a0_8 a0_9 a0_10 w K :=
  fn_sound pok Try.func84 (fn := Try.f84) (c := bodyOf Try.f84) (nt := 19) (by kernel_rfl) (by kernel_rfl) (rs := [.tmp 2]) (by kernel_rfl) [.one .bool] K (.seq .leaf (.seq (.seq .leaf (.cond (.seq .leaf .leaf) .leaf)) (.seq .leaf .leaf))) [(Value.agg ⟨[(Value.int .i64 a0_0), (Value.int .i64 a0_1), (Value.int .i64 a0_2), (Value.int .i64 a0_3), (Value.int .i64 a0_4), (Value.int .i64 a0_5), (Value.int .i64 a0_6), (Value.bool a0_7), (Value.bool a0_8), (Value.slice a0_9.a a0_9.len a0_9.cap), (Value.slice a0_10.a a0_10.len a0_10.cap)]⟩)] (by kernel_rfl) w ((e_errs_plain a0_0 a0_1 a0_2 a0_3 a0_4 a0_5 a0_6 a0_7 a0_8 a0_9 a0_10 w K).mpr h)

/-- goosepond/icmp.Check -/
def s_icmp_Check (a0_0 : Int) (a0_1 : Int) (a0_2 : Int) (a0_3 : SliceV) (w : World) (K : Int → World → Prop) : Prop :=
 (Al w (.cells ⟨[(Value.int .i64 a0_0), (Value.int .i64 a0_1), (Value.int .i64 a0_2), (Value.slice a0_3.a a0_3.len a0_3.cap)]⟩ 45) fun a3 w2 =>
 let J4 : Bool → World → Prop := fun j5 w6 =>
 ((bif j5 then
 K 1 w6
 else
 Ld .slice w6 (a3.add 3) fun x7 =>
 (bif (decide ((x7.len : Int) > 65527)) then
 K 6 w6
 else
 K 0 w6)))
 Ld (.int .i64) w2 a3 fun x8 =>
 c_be_Fits x8 1 w2 fun r9 w10 =>
 (bif (!r9) then
 J4 true w10
 else
 Ld (.int .i64) w10 (a3.add 1) fun x11 =>
 c_be_Fits x11 1 w10 fun r12 w13 =>
 (bif (!r12) then
 J4 true w13
 else
 Ld (.int .i64) w13 (a3.add 2) fun x14 =>
 c_be_Fits x14 4 w13 fun r15 w16 =>
 J4 (!r15) w16)))
theorem e_icmp_Check (a0_0 : Int) (a0_1 : Int) (a0_2 : Int) (a0_3 : SliceV) (w : World) (K : Int → World → Prop) : den Try.prog 23 (bodyOf Try.f85) none (.seq .leaf (.seq (.seq .leaf (.cond (.seq .leaf .leaf) .leaf)) (.seq (.seq .leaf (.cond (.seq .leaf .leaf) .leaf)) (.seq .leaf .leaf)))) (argEnv 0 [(Value.agg ⟨[(Value.int .i64 a0_0), (Value.int .i64 a0_1), (Value.int .i64 a0_2), (Value.slice a0_3.a a0_3.len a0_3.cap)]⟩)]) [] w (retK Try.prog [.tmp 2] [.one (.int .i64)] K) = s_icmp_Check a0_0 a0_1 a0_2 a0_3 w K := by kernel_rfl
theorem ok_icmp_Check {a0_0 a0_1 a0_2 a0_3 w K} (h : s_icmp_Check a0_0 a0_1 a0_2 a0_3 w K) : c_icmp_Check a0_0 a0_1 a0_2 a0_3 w K :=
  fn_sound pok Try.func85 (fn := Try.f85) (c := bodyOf Try.f85) (nt := 23) (by kernel_rfl) (by kernel_rfl) (rs := [.tmp 2]) (by kernel_rfl) [.one (.int .i64)] K (.seq .leaf (.seq (.seq .leaf (.cond (.seq .leaf .leaf) .leaf)) (.seq (.seq .leaf (.cond (.seq .leaf .leaf) .leaf)) (.seq .leaf .leaf)))) [(Value.agg ⟨[(Value.int .i64 a0_0), (Value.int .i64 a0_1), (Value.int .i64 a0_2), (Value.slice a0_3.a a0_3.len a0_3.cap)]⟩)] (by kernel_rfl) w ((e_icmp_Check a0_0 a0_1 a0_2 a0_3 w K).mpr h)

/-- goosepond/goosepondref09.Check -/
def s_ref09_Check (a0_0 : Int) (a0_1 : Int) (a0_2 : Int) (a0_3 : SliceV) (w : World) (K : Int → World → Prop) : Prop :=
 (Al w (.cells ⟨[(Value.int .i64 a0_0), (Value.int .i64 a0_1), (Value.int .i64 a0_2), (Value.slice a0_3.a a0_3.len a0_3.cap)]⟩ 45) fun a3 w2 =>
 let J4 : Bool → World → Prop := fun j5 w6 =>
 ((bif j5 then
 K 1 w6
 else
 Ld .slice w6 (a3.add 3) fun x7 =>
 (bif (decide ((x7.len : Int) > 65527)) then
 K 6 w6
 else
 K 0 w6)))
 Ld (.int .i64) w2 a3 fun x8 =>
 c_ref01_Fits x8 1 w2 fun r9 w10 =>
 (bif (!r9) then
 J4 true w10
 else
 Ld (.int .i64) w10 (a3.add 1) fun x11 =>
 c_ref01_Fits x11 1 w10 fun r12 w13 =>
 (bif (!r12) then
 J4 true w13
 else
 Ld (.int .i64) w13 (a3.add 2) fun x14 =>
 c_ref01_Fits x14 4 w13 fun r15 w16 =>
 J4 (!r15) w16)))
theorem e_ref09_Check (a0_0 : Int) (a0_1 : Int) (a0_2 : Int) (a0_3 : SliceV) (w : World) (K : Int → World → Prop) : den Try.prog 23 (bodyOf Try.f86) none (.seq .leaf (.seq (.seq .leaf (.cond (.seq .leaf .leaf) .leaf)) (.seq (.seq .leaf (.cond (.seq .leaf .leaf) .leaf)) (.seq .leaf .leaf)))) (argEnv 0 [(Value.agg ⟨[(Value.int .i64 a0_0), (Value.int .i64 a0_1), (Value.int .i64 a0_2), (Value.slice a0_3.a a0_3.len a0_3.cap)]⟩)]) [] w (retK Try.prog [.tmp 2] [.one (.int .i64)] K) = s_ref09_Check a0_0 a0_1 a0_2 a0_3 w K := by kernel_rfl
theorem ok_ref09_Check {a0_0 a0_1 a0_2 a0_3 w K} (h : s_ref09_Check a0_0 a0_1 a0_2 a0_3 w K) : c_ref09_Check a0_0 a0_1 a0_2 a0_3 w K :=
  fn_sound pok Try.func86 (fn := Try.f86) (c := bodyOf Try.f86) (nt := 23) (by kernel_rfl) (by kernel_rfl) (rs := [.tmp 2]) (by kernel_rfl) [.one (.int .i64)] K (.seq .leaf (.seq (.seq .leaf (.cond (.seq .leaf .leaf) .leaf)) (.seq (.seq .leaf (.cond (.seq .leaf .leaf) .leaf)) (.seq .leaf .leaf)))) [(Value.agg ⟨[(Value.int .i64 a0_0), (Value.int .i64 a0_1), (Value.int .i64 a0_2), (Value.slice a0_3.a a0_3.len a0_3.cap)]⟩)] (by kernel_rfl) w ((e_ref09_Check a0_0 a0_1 a0_2 a0_3 w K).mpr h)

/-- goosepond/goosepondref09.Bytes -/
def s_ref09_Bytes (a0_0 : Int) (a0_1 : Int) (a0_2 : Int) (a0_3 : SliceV) (a1 : Int) (w : World) (K : SliceV → World → Prop) : Prop :=
 (Al w (.cells ⟨[(Value.int .i64 a0_0), (Value.int .i64 a0_1), (Value.int .i64 a0_2), (Value.slice a0_3.a a0_3.len a0_3.cap)]⟩ 45) fun a4 w3 =>
 Ld (.int .i64) w3 a4 fun x5 =>
 Ld (.int .i64) w3 (a4.add 1) fun x6 =>
 Al w3 (.cells ⟨[(Value.int .u8 (IntKind.u8.wrap x5)), (Value.int .u8 (IntKind.u8.wrap x6))]⟩ 5) fun a8 w7 =>
 c_ref01_Put ⟨(some a8), 2, 2⟩ a1 2 w7 fun r9 w10 =>
 Ld (.int .i64) w10.drew (a4.add 2) fun x11 =>
 Ld .slice w10.drew (a4.add 3) fun x12 =>
 c_ref01_Put r9 x11 4 w10.drew fun r13 w14 =>
 w14.cell? (a4.add 3) = some (Value.slice x12.a x12.len x12.cap) ∧
 AppSl 5 1 1 [(Value.int .u8 0)] r13 x12 w14 fun s15 w16 =>
 K s15 w16)
theorem e_ref09_Bytes (a0_0 : Int) (a0_1 : Int) (a0_2 : Int) (a0_3 : SliceV) (a1 : Int) (w : World) (K : SliceV → World → Prop) : den Try.prog 22 (bodyOf Try.f87) none (.seq .leaf (.seq .leaf (.seq .leaf .leaf))) (argEnv 0 [(Value.agg ⟨[(Value.int .i64 a0_0), (Value.int .i64 a0_1), (Value.int .i64 a0_2), (Value.slice a0_3.a a0_3.len a0_3.cap)]⟩), (Value.int .i64 a1)]) [] w (retK Try.prog [.tmp 4] [.one .slice] K) = s_ref09_Bytes a0_0 a0_1 a0_2 a0_3 a1 w K := by kernel_rfl
theorem ok_ref09_Bytes {a0_0 a0_1 a0_2 a0_3 a1 w K} (h : s_ref09_Bytes a0_0 a0_1 a0_2 a0_3 a1 w K) : c_ref09_Bytes a0_0 a0_1 a0_2 a0_3 a1 w K :=
  fn_sound pok Try.func87 (fn := Try.f87) (c := bodyOf Try.f87) (nt := 22) (by kernel_rfl) (by kernel_rfl) (rs := [.tmp 4]) (by kernel_rfl) [.one .slice] K (.seq .leaf (.seq .leaf (.seq .leaf .leaf))) [(Value.agg ⟨[(Value.int .i64 a0_0), (Value.int .i64 a0_1), (Value.int .i64 a0_2), (Value.slice a0_3.a a0_3.len a0_3.cap)]⟩), (Value.int .i64 a1)] (by kernel_rfl) w ((e_ref09_Bytes a0_0 a0_1 a0_2 a0_3 a1 w K).mpr h)

/-- slices.Contains[[]int,int] -/
def s_slices_Contains_int_int (a0 : SliceV) (a1 : Int) (w : World) (K : Bool → World → Prop) : Prop :=
 (c_slices_Index_int_int a0 a1 w fun r3 w4 =>
 K (decide (r3 ≥ 0)) w4)
theorem e_slices_Contains_int_int (a0 : SliceV) (a1 : Int) (w : World) (K : Bool → World → Prop) : den Try.prog 9 (bodyOf Try.f88) none (.seq .leaf (.seq .leaf .leaf)) (argEnv 0 [(Value.slice a0.a a0.len a0.cap), (Value.int .i64 a1)]) [] w (retK Try.prog [.tmp 4] [.one .bool] K) = s_slices_Contains_int_int a0 a1 w K := by kernel_rfl
theorem ok_slices_Contains_int_int {a0 a1 w K} (h : s_slices_Contains_int_int a0 a1 w K) : c_slices_Contains_int_int a0 a1 w K :=
  fn_sound pok Try.func88 (fn := Try.f88) (c := bodyOf Try.f88) (nt := 9) (by kernel_rfl) (by kernel_rfl) (rs := [.tmp 4]) (by kernel_rfl) [.one .bool] K (.seq .leaf (.seq .leaf .leaf)) [(Value.slice a0.a a0.len a0.cap), (Value.int .i64 a1)] (by kernel_rfl) w ((e_slices_Contains_int_int a0 a1 w K).mpr h)

/-- goosepond/goosepondref07.Check -/
def s_ref07_Check (a0_0 : Int) (a0_1 : Int) (a0_2 : Bool) (a0_3 : SliceV) (w : World) (K : Int → World → Prop) : Prop :=
 (Al w (.cells ⟨[(Value.int .i64 a0_0), (Value.int .i64 a0_1), (Value.bool a0_2), (Value.slice a0_3.a a0_3.len a0_3.cap)]⟩ 94) fun a3 w2 =>
 let J4 : Bool → World → Prop := fun j5 w6 =>
 ((bif j5 then
 K 1 w6
 else
 Ld .slice w6 (a3.add 3) fun x7 =>
 (bif (decide ((x7.len : Int) > 65527)) then
 K 6 w6
 else
 K 0 w6)))
 Ld (.int .i64) w2 a3 fun x8 =>
 c_ref01_Fits x8 2 w2 fun r9 w10 =>
 (bif (!r9) then
 J4 true w10
 else
 Ld (.int .i64) w10 (a3.add 1) fun x11 =>
 c_ref01_Fits x11 2 w10 fun r12 w13 =>
 J4 (!r12) w13))
theorem e_ref07_Check (a0_0 : Int) (a0_1 : Int) (a0_2 : Bool) (a0_3 : SliceV) (w : World) (K : Int → World → Prop) : den Try.prog 17 (bodyOf Try.f94) none (.seq .leaf (.seq (.seq .leaf (.cond (.seq .leaf .leaf) .leaf)) (.seq (.seq .leaf (.cond (.seq .leaf .leaf) .leaf)) (.seq .leaf .leaf)))) (argEnv 0 [(Value.agg ⟨[(Value.int .i64 a0_0), (Value.int .i64 a0_1), (Value.bool a0_2), (Value.slice a0_3.a a0_3.len a0_3.cap)]⟩)]) [] w (retK Try.prog [.tmp 2] [.one (.int .i64)] K) = s_ref07_Check a0_0 a0_1 a0_2 a0_3 w K := by kernel_rfl
theorem ok_ref07_Check {a0_0 a0_1 a0_2 a0_3 w K} (h : s_ref07_Check a0_0 a0_1 a0_2 a0_3 w K) : c_ref07_Check a0_0 a0_1 a0_2 a0_3 w K :=
  fn_sound pok Try.func94 (fn := Try.f94) (c := bodyOf Try.f94) (nt := 17) (by kernel_rfl) (by kernel_rfl) (rs := [.tmp 2]) (by kernel_rfl) [.one (.int .i64)] K (.seq .leaf (.seq (.seq .leaf (.cond (.seq .leaf .leaf) .leaf)) (.seq (.seq .leaf (.cond (.seq .leaf .leaf) .leaf)) (.seq .leaf .leaf)))) [(Value.agg ⟨[(Value.int .i64 a0_0), (Value.int .i64 a0_1), (Value.bool a0_2), (Value.slice a0_3.a a0_3.len a0_3.cap)]⟩)] (by kernel_rfl) w ((e_ref07_Check a0_0 a0_1 a0_2 a0_3 w K).mpr h)

/-- goosepond/goosepondref07.bytes -/
def s_ref07_bytes (a0_0 : Int) (a0_1 : Int) (a0_2 : Bool) (a0_3 : SliceV) (a1 : Int) (w : World) (K : SliceV → World → Prop) : Prop :=
 (Al w (.cells ⟨[(Value.int .i64 a0_0), (Value.int .i64 a0_1), (Value.bool a0_2), (Value.slice a0_3.a a0_3.len a0_3.cap)]⟩ 94) fun a4 w3 =>
 Ld (.int .i64) w3.drew a4 fun x5 =>
 Ld (.int .i64) w3.drew (a4.add 1) fun x6 =>
 c_ref01_Put ⟨none, 0, 0⟩ x5 2 w3.drew fun r7 w8 =>
 w8.cell? (a4.add 1) = some (Value.int .i64 x6) ∧
 c_ref01_Put r7 x6 2 w8 fun r9 w10 =>
 Ld .slice w10 (a4.add 3) fun x11 =>
 c_ref01_Put r9 (IntKind.i64.wrap (8 + (x11.len : Int))) 2 w10 fun r12 w13 =>
 c_ref01_Put r12 a1 2 w13 fun r14 w15 =>
 Ld .slice w15 (a4.add 3) fun x16 =>
 AppSl 5 1 1 [(Value.int .u8 0)] r14 x16 w15 fun s17 w18 =>
 K s17 w18)
theorem e_ref07_bytes (a0_0 : Int) (a0_1 : Int) (a0_2 : Bool) (a0_3 : SliceV) (a1 : Int) (w : World) (K : SliceV → World → Prop) : den Try.prog 24 (bodyOf Try.f95) none (.seq .leaf (.seq .leaf (.seq .leaf (.seq .leaf .leaf)))) (argEnv 0 [(Value.agg ⟨[(Value.int .i64 a0_0), (Value.int .i64 a0_1), (Value.bool a0_2), (Value.slice a0_3.a a0_3.len a0_3.cap)]⟩), (Value.int .i64 a1)]) [] w (retK Try.prog [.tmp 4] [.one .slice] K) = s_ref07_bytes a0_0 a0_1 a0_2 a0_3 a1 w K := by kernel_rfl
theorem ok_ref07_bytes {a0_0 a0_1 a0_2 a0_3 a1 w K} (h : s_ref07_bytes a0_0 a0_1 a0_2 a0_3 a1 w K) : c_ref07_bytes a0_0 a0_1 a0_2 a0_3 a1 w K :=
  fn_sound pok Try.func95 (fn := Try.f95) (c := bodyOf Try.f95) (nt := 24) (by kernel_rfl) (by kernel_rfl) (rs := [.tmp 4]) (by kernel_rfl) [.one .slice] K (.seq .leaf (.seq .leaf (.seq .leaf (.seq .leaf .leaf)))) [(Value.agg ⟨[(Value.int .i64 a0_0), (Value.int .i64 a0_1), (Value.bool a0_2), (Value.slice a0_3.a a0_3.len a0_3.cap)]⟩), (Value.int .i64 a1)] (by kernel_rfl) w ((e_ref07_bytes a0_0 a0_1 a0_2 a0_3 a1 w K).mpr h)

/-- goosepond/goosepondref07.Pseudo -/
def s_ref07_Pseudo (a0 : Int) (a1 : Int) (a2 : Int) (a3 : Int) (w : World) (K : SliceV → World → Prop) : Prop :=
 (c_ref07_mod a0 4294967296 w fun r5 w6 =>
 c_ref01_Put ⟨none, 0, 0⟩ r5 4 w6 fun r7 w8 =>
 c_ref07_mod a1 4294967296 w8 fun r9 w10 =>
 c_ref01_Put r7 r9 4 w10 fun r11 w12 =>
 Al w12 (.cells ⟨[(Value.int .u8 0)]⟩ 5) fun a14 w13 =>
 AppSl 5 1 1 [(Value.int .u8 0)] r11 ⟨(some a14), 1, 1⟩ w13 fun s15 w16 =>
 c_ref07_mod a2 256 w16 fun r17 w18 =>
 c_ref01_Put s15 r17 1 w18 fun r19 w20 =>
 c_ref07_mod a3 65536 w20 fun r21 w22 =>
 c_ref01_Put r19 r21 2 w22 fun r23 w24 =>
 K r23 w24)
theorem e_ref07_Pseudo (a0 : Int) (a1 : Int) (a2 : Int) (a3 : Int) (w : World) (K : SliceV → World → Prop) : den Try.prog 25 (bodyOf Try.f96) none (.seq .leaf (.seq .leaf (.seq .leaf .leaf))) (argEnv 0 [(Value.int .i64 a0), (Value.int .i64 a1), (Value.int .i64 a2), (Value.int .i64 a3)]) [] w (retK Try.prog [.tmp 8] [.one .slice] K) = s_ref07_Pseudo a0 a1 a2 a3 w K := by kernel_rfl
theorem ok_ref07_Pseudo {a0 a1 a2 a3 w K} (h : s_ref07_Pseudo a0 a1 a2 a3 w K) : c_ref07_Pseudo a0 a1 a2 a3 w K :=
  fn_sound pok Try.func96 (fn := Try.f96) (c := bodyOf Try.f96) (nt := 25) (by kernel_rfl) (by kernel_rfl) (rs := [.tmp 8]) (by kernel_rfl) [.one .slice] K (.seq .leaf (.seq .leaf (.seq .leaf .leaf))) [(Value.int .i64 a0), (Value.int .i64 a1), (Value.int .i64 a2), (Value.int .i64 a3)] (by kernel_rfl) w ((e_ref07_Pseudo a0 a1 a2 a3 w K).mpr h)

/-- goosepond/four.one -/
def s_four_one (a0 : Int) (a1 : SliceV) (w : World) (K : Bool → World → Prop) : Prop :=
 (LoopP (S := Int × Unit) (fun s3 w4 next5 =>
 (bif (decide (s3.1 < (a1.len : Int))) then
 AtIx a1 2 s3.1 fun a6 =>
 Ld (.int .i64) w4 (a6.add 0) fun x7 =>
 Ld (.int .i64) w4 (a6.add 1) fun x8 =>
 Al w4 (.cells ⟨[(Value.int .i64 0), (Value.int .i64 0)]⟩ 106) fun a10 w9 =>
 StN [(Value.int .i64 x7), (Value.int .i64 x8)] w9 a10 0 fun w11 =>
 Ld (.int .i64) w11 (a10.add 0) fun x12 =>
 Ld (.int .i64) w11 (a10.add 1) fun x13 =>
 c_four_block_has x12 x13 a0 w11 fun r14 w15 =>
 (bif r14 then
 K true w15
 else
 next5 ((IntKind.i64.wrap (s3.1 + 1)), ()) w15)
 else
 K false w4)) (0, ()) w)
theorem e_four_one (a0 : Int) (a1 : SliceV) (w : World) (K : Bool → World → Prop) : den Try.prog 17 (bodyOf Try.f97) none (.seq .leaf (.seq (.seq .leaf (.blk (.loop [(9, (.int .i64))] (.seq .leaf (.seq (.cond .leaf .leaf) (.seq (.blk (.seq .leaf (.seq .leaf (.cond (.seq .leaf .leaf) .leaf)))) .leaf)))))) (.seq .leaf .leaf))) (argEnv 0 [(Value.int .i64 a0), (Value.slice a1.a a1.len a1.cap)]) [] w (retK Try.prog [.tmp 4] [.one .bool] K) = s_four_one a0 a1 w K := by kernel_rfl
theorem ok_four_one {a0 a1 w K} (h : s_four_one a0 a1 w K) : c_four_one a0 a1 w K :=
  fn_sound pok Try.func97 (fn := Try.f97) (c := bodyOf Try.f97) (nt := 17) (by kernel_rfl) (by kernel_rfl) (rs := [.tmp 4]) (by kernel_rfl) [.one .bool] K (.seq .leaf (.seq (.seq .leaf (.blk (.loop [(9, (.int .i64))] (.seq .leaf (.seq (.cond .leaf .leaf) (.seq (.blk (.seq .leaf (.seq .leaf (.cond (.seq .leaf .leaf) .leaf)))) .leaf)))))) (.seq .leaf .leaf))) [(Value.int .i64 a0), (Value.slice a1.a a1.len a1.cap)] (by kernel_rfl) w ((e_four_one a0 a1 w K).mpr h)

/-- slices.Index[[]int,int] -/
def s_slices_Index_int_int (a0 : SliceV) (a1 : Int) (w : World) (K : Int → World → Prop) : Prop :=
 (LoopP (S := Int × Unit) (fun s3 w4 next5 =>
 (bif (decide (s3.1 < (a0.len : Int))) then
 AtIx a0 1 s3.1 fun a6 =>
 Ld (.int .i64) w4 a6 fun x7 =>
 (bif (a1 == x7) then
 K s3.1 w4
 else
 next5 ((IntKind.i64.wrap (s3.1 + 1)), ()) w4)
 else
 K (-1) w4)) (0, ()) w)
theorem e_slices_Index_int_int (a0 : SliceV) (a1 : Int) (w : World) (K : Int → World → Prop) : den Try.prog 19 (bodyOf Try.f98) none (.seq .leaf (.seq (.seq .leaf (.blk (.loop [(8, (.int .i64))] (.seq .leaf (.seq (.cond .leaf .leaf) (.seq (.blk (.seq .leaf (.seq .leaf (.cond (.seq .leaf .leaf) .leaf)))) .leaf)))))) (.seq .leaf .leaf))) (argEnv 0 [(Value.slice a0.a a0.len a0.cap), (Value.int .i64 a1)]) [] w (retK Try.prog [.tmp 4] [.one (.int .i64)] K) = s_slices_Index_int_int a0 a1 w K := by kernel_rfl
theorem ok_slices_Index_int_int {a0 a1 w K} (h : s_slices_Index_int_int a0 a1 w K) : c_slices_Index_int_int a0 a1 w K :=
  fn_sound pok Try.func98 (fn := Try.f98) (c := bodyOf Try.f98) (nt := 19) (by kernel_rfl) (by kernel_rfl) (rs := [.tmp 4]) (by kernel_rfl) [.one (.int .i64)] K (.seq .leaf (.seq (.seq .leaf (.blk (.loop [(8, (.int .i64))] (.seq .leaf (.seq (.cond .leaf .leaf) (.seq (.blk (.seq .leaf (.seq .leaf (.cond (.seq .leaf .leaf) .leaf)))) .leaf)))))) (.seq .leaf .leaf))) [(Value.slice a0.a a0.len a0.cap), (Value.int .i64 a1)] (by kernel_rfl) w ((e_slices_Index_int_int a0 a1 w K).mpr h)

/-- goosepond/goosepondref07.mod -/
def s_ref07_mod (a0 : Int) (a1 : Int) (w : World) (K : Int → World → Prop) : Prop :=
 (a1 ≠ 0 ∧
 a1 ≠ 0 ∧
 K (Int.tmod (IntKind.i64.wrap ((Int.tmod a0 a1) + a1)) a1) w)
theorem e_ref07_mod (a0 : Int) (a1 : Int) (w : World) (K : Int → World → Prop) : den Try.prog 12 (bodyOf Try.f100) none (.seq .leaf (.seq .leaf .leaf)) (argEnv 0 [(Value.int .i64 a0), (Value.int .i64 a1)]) [] w (retK Try.prog [.tmp 4] [.one (.int .i64)] K) = s_ref07_mod a0 a1 w K := by kernel_rfl
theorem ok_ref07_mod {a0 a1 w K} (h : s_ref07_mod a0 a1 w K) : c_ref07_mod a0 a1 w K :=
  fn_sound pok Try.func100 (fn := Try.f100) (c := bodyOf Try.f100) (nt := 12) (by kernel_rfl) (by kernel_rfl) (rs := [.tmp 4]) (by kernel_rfl) [.one (.int .i64)] K (.seq .leaf (.seq .leaf .leaf)) [(Value.int .i64 a0), (Value.int .i64 a1)] (by kernel_rfl) w ((e_ref07_mod a0 a1 w K).mpr h)

/-- (goosepond/four.block).has -/
def s_four_block_has (a0_0 : Int) (a0_1 : Int) (a1 : Int) (w : World) (K : Bool → World → Prop) : Prop :=
 (Al w (.cells ⟨[(Value.int .i64 a0_0), (Value.int .i64 a0_1)]⟩ 106) fun a4 w3 =>
 Ld (.int .i64) w3 (a4.add 1) fun x5 =>
 let J6 : Bool → World → Prop := fun j7 w8 =>
 (K j7 w8)
 c_four_Right a1 w3.drew fun r9 w10 =>
 (bif r9 then
 0 ≤ (IntKind.i64.wrap (32 - x5)) ∧
 Ld (.int .i64) w10 a4 fun x11 =>
 0 ≤ (IntKind.i64.wrap (32 - x5)) ∧
 J6 ((shrI .i64 a1 (IntKind.i64.wrap (32 - x5))) == (shrI .i64 x11 (IntKind.i64.wrap (32 - x5)))) w10
 else
 J6 false w10))
theorem e_four_block_has (a0_0 : Int) (a0_1 : Int) (a1 : Int) (w : World) (K : Bool → World → Prop) : den Try.prog 21 (bodyOf Try.f101) none (.seq .leaf (.seq .leaf (.seq .leaf .leaf))) (argEnv 0 [(Value.agg ⟨[(Value.int .i64 a0_0), (Value.int .i64 a0_1)]⟩), (Value.int .i64 a1)]) [] w (retK Try.prog [.tmp 4] [.one .bool] K) = s_four_block_has a0_0 a0_1 a1 w K := by kernel_rfl
theorem ok_four_block_has {a0_0 a0_1 a1 w K} (h : s_four_block_has a0_0 a0_1 a1 w K) : c_four_block_has a0_0 a0_1 a1 w K :=
  fn_sound pok Try.func101 (fn := Try.f101) (c := bodyOf Try.f101) (nt := 21) (by kernel_rfl) (by kernel_rfl) (rs := [.tmp 4]) (by kernel_rfl) [.one .bool] K (.seq .leaf (.seq .leaf (.seq .leaf .leaf))) [(Value.agg ⟨[(Value.int .i64 a0_0), (Value.int .i64 a0_1)]⟩), (Value.int .i64 a1)] (by kernel_rfl) w ((e_four_block_has a0_0 a0_1 a1 w K).mpr h)

end Go.Proofs
