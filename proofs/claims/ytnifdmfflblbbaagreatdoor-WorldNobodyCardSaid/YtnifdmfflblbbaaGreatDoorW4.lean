import Derived.Test.YtnifdmfflblbbaaGreatDoorRows
import Derived.LaidByTextLater
import Derived.SevenTiedAt
import Derived.LaidOnce
import GoSem.ClaimDataLaid
section
namespace Go.Proofs.YtnifdmfflblbbaaGreatDoor
open Go
theorem iH:Tryz.pinned.checked.prog.pinnedFits "unicode/utf8.first"=true:=by kernel_rfl
theorem zq:Tryz.pinned.checked.prog.headLifts.contains "ownunsafe"=false:=by kernel_rfl
theorem KO:Tryz.pinned.checked.prog.listedFits [("errors.errorType",Rows.laid_errors_errorType),("unicode/utf8.first",Rows.laid_unicode_utf8_first),("unicode/utf8.acceptRanges",Rows.laid_unicode_utf8_acceptRanges),("internal/strconv.uint64pow10",Rows.laid_internal_strconv_uint64pow10),("math/bits.deBruijn32tab",Rows.laid_math_bits_deBruijn32tab),("math/bits.deBruijn64tab",Rows.laid_math_bits_deBruijn64tab)]=true:=by
 unfold Program.listedFits
 rw [zq]
 kernel_rfl
theorem Nh:Tryz.prog.worded (varsWordLater true)=true:=by kernel_rfl
theorem Nj:Tryz.prog.worded (varsWordLater !true)=false:=by kernel_rfl
theorem Na:Tryz.prog.worded rootWordLater=true:=by kernel_rfl
abbrev AY:List (String×DataW Unit):=[("errors.errorType",Rows.laid_errors_errorType),("unicode/utf8.acceptRanges",Rows.laid_unicode_utf8_acceptRanges),("internal/strconv.uint64pow10",Rows.laid_internal_strconv_uint64pow10),("math/bits.deBruijn32tab",Rows.laid_math_bits_deBruijn32tab),("math/bits.deBruijn64tab",Rows.laid_math_bits_deBruijn64tab)]
theorem Np:varsNamedLaterB Tryz.prog (varsId Tryz.prog) AY=true:=by kernel_rfl
theorem MK (os:Os) (tape:Tape):doorLeaves Tryz.prog 400 8 1000 AY os tape=some (AY.filter fun x=>x.2.handleName?.isNone,(funcsListed AY).map (·.2.funcsOut)):=by kernel_rfl
theorem tie:Tryz.prog.laidByTextLater [("errors.errorType",Rows.laid_errors_errorType),("unicode/utf8.acceptRanges",Rows.laid_unicode_utf8_acceptRanges),("internal/strconv.uint64pow10",Rows.laid_internal_strconv_uint64pow10),("math/bits.deBruijn32tab",Rows.laid_math_bits_deBruijn32tab),("math/bits.deBruijn64tab",Rows.laid_math_bits_deBruijn64tab)] [.handle,.data,.data,.data,.data] true:=
 Program.laidByTextLater_by_one 400 8 1000 Nh Nj Na (by kernel_rfl) (by kernel_rfl) Np MK
theorem mJ:Rows.worldNobodyRow.laidByTextAt .later Tryz.pinned [.handle,.pinned,.data,.data,.data,.data] true:=
 OpenClaim.laidByTextAt_pinned rfl rfl tie rfl rfl rfl rfl (fun y hy _e=>by
  simp only [Rows.worldNobodyRow,List.zip_cons_cons,List.zip_nil_right,List.mem_cons,List.mem_nil_iff,or_false] at hy
  rcases hy with rfl|rfl|rfl|rfl|rfl|rfl
  ·cases _e
  ·exact⟨iH,by kernel_rfl⟩
  ·cases _e
  ·cases _e
  ·cases _e
  ·cases _e) KO
end Go.Proofs.YtnifdmfflblbbaaGreatDoor
end
section
namespace Go.Proofs.YtnifdmfflblbbaaGreatDoor
open Go
theorem Nc:(List.range' 0 60).all (rowFine Tryz.prog)=true:=by kernel_rfl
theorem MQ:(List.range' 60 60).all (rowFine Tryz.prog)=true:=by kernel_rfl
theorem Ky:(List.range' 120 60).all (rowFine Tryz.prog)=true:=by kernel_rfl
theorem KF:(List.range' 180 60).all (rowFine Tryz.prog)=true:=by kernel_rfl
theorem LM:(List.range' 240 60).all (rowFine Tryz.prog)=true:=by kernel_rfl
theorem KW:(List.range' 300 60).all (rowFine Tryz.prog)=true:=by kernel_rfl
theorem Lm:(List.range' 360 60).all (rowFine Tryz.prog)=true:=by kernel_rfl
theorem Lc:(List.range' 420 60).all (rowFine Tryz.prog)=true:=by kernel_rfl
theorem Kw:(List.range' 480 60).all (rowFine Tryz.prog)=true:=by kernel_rfl
theorem Kv:(List.range' 540 60).all (rowFine Tryz.prog)=true:=by kernel_rfl
theorem K_:(List.range' 600 60).all (rowFine Tryz.prog)=true:=by kernel_rfl
theorem KR:(List.range' 660 54).all (rowFine Tryz.prog)=true:=by kernel_rfl
theorem MS:Tryz.prog.types.size=714:=by kernel_rfl
theorem Nb:Tryz.prog.globals.all (fun g=>decide (g.type<Tryz.prog.types.size))=true:=by kernel_rfl
theorem Nl:Tryz.prog.funcs.all (fun f=>f.params.all fun t=>decide (t<Tryz.prog.types.size))=true:=by kernel_rfl
theorem laidOut:laidOutB Tryz.prog=true:=by
 unfold laidOutB
 rw [MS,<- MS,Nb,Nl,MS,Bool.and_true,Bool.and_true,List.all_eq_true]
 intro t ht
 have ht:t<714:=List.mem_range.1 ht
 by_cases h:t<60
 ·exact List.all_eq_true.1 Nc t (List.mem_range'_1.2 ⟨by omega,by omega⟩)
 by_cases h:t<120
 ·exact List.all_eq_true.1 MQ t (List.mem_range'_1.2 ⟨by omega,by omega⟩)
 by_cases h:t<180
 ·exact List.all_eq_true.1 Ky t (List.mem_range'_1.2 ⟨by omega,by omega⟩)
 by_cases h:t<240
 ·exact List.all_eq_true.1 KF t (List.mem_range'_1.2 ⟨by omega,by omega⟩)
 by_cases h:t<300
 ·exact List.all_eq_true.1 LM t (List.mem_range'_1.2 ⟨by omega,by omega⟩)
 by_cases h:t<360
 ·exact List.all_eq_true.1 KW t (List.mem_range'_1.2 ⟨by omega,by omega⟩)
 by_cases h:t<420
 ·exact List.all_eq_true.1 Lm t (List.mem_range'_1.2 ⟨by omega,by omega⟩)
 by_cases h:t<480
 ·exact List.all_eq_true.1 Lc t (List.mem_range'_1.2 ⟨by omega,by omega⟩)
 by_cases h:t<540
 ·exact List.all_eq_true.1 Kw t (List.mem_range'_1.2 ⟨by omega,by omega⟩)
 by_cases h:t<600
 ·exact List.all_eq_true.1 Kv t (List.mem_range'_1.2 ⟨by omega,by omega⟩)
 by_cases h:t<660
 ·exact List.all_eq_true.1 K_ t (List.mem_range'_1.2 ⟨by omega,by omega⟩)
 by_cases h:t<714
 ·exact List.all_eq_true.1 KR t (List.mem_range'_1.2 ⟨by omega,by omega⟩)
 omega
end Go.Proofs.YtnifdmfflblbbaaGreatDoor
end
