/- The rules that the walk simplifies by. -/
import Derived.Test.YtmnponhhmkdcdaaGreatDoorKRange
namespace Go.Kin
open Go.RowKit
attribute [go_sem] runL_nil runL_cons runX_none runX_nil runX_cons runD_nil runD_cons runDX_stop runDX_nil_box runDX_nil_val runDX_cons_box runDX_cons_val runT_nil runT_cons runTX_none runTX_nil runTX_cons pureR pendD List.getElem?_toArray Op.operands Call.operands List.append_toArray
attribute [go_sem] Int.toNat_natCast
attribute [go_sem] Value.int.injEq Value.bool.injEq Value.string.injEq Int.natCast_zero
attribute [go_sem] repD chunk bndO srcSV sliceElem lfR lfD catR_zero offR_zero frzSt frzS frzLL frzSV frzL Int.toNat_zero Int.sub_zero Int.toNat_natCast
attribute [go_sem] killF mapF LeF frzF mgF sameF
attribute [go_sem] Option.isNone_none Option.isNone_some
attribute [go_sem] restS famSt nilStep nilEq
attribute [go_sem] keepL nlOk bsD un1 unS swp swJ sw2 renV renL renS renLL renO renF renSt setPs argsV slotsV fnCaps putD dsts
attribute [go_sem] isVCall step2 plainStep pickStep gstep gfall pickG opS pickS cndsS opTmps evalL unop cndOf wantR stepO stepB stepA dstOk klook evalO applyL delK delKs killS mapS mapL killLs keysOf kill killL cellsSV aggD ownsOk fieldOf sliceElem isStr isSl isBoolT one1 mkSV allD mkD setCs leafSV partsD partD placesOf fillS setMany pickSV binV unV slotsFrom eqV eqFs preL baseL isAlloc putS cleanSV cleanL argsD undef resV toD toDs toD1 toD1s toD2 toD2s resD LeX LeXs LeXv LeSV LeSVs LeS LeL LeO LeOw mgSt mgS mgL mgO mgSV mgSVs mgD mgDs mgVD mgV isNilS
attribute [go_sem] List.drop_zero List.drop_succ_cons List.drop_nil List.take_zero List.take_succ_cons List.take_nil List.length_cons List.length_nil List.head?_cons List.headD_cons List.map_cons List.map_nil List.getElem?_cons_zero List.getElem?_cons_succ List.getElem?_nil List.mapM_nil List.mapM_cons List.set_cons_zero List.set_cons_succ List.set_nil List.cons_append List.nil_append List.append_nil List.all_cons List.all_nil List.contains_cons List.contains_nil Option.isSome_some Option.isSome_none Option.bind_eq_bind Option.bind_some Option.map_some Option.map_none Option.pure_def
attribute [go_sem] Bool.or_true Bool.true_or Bool.or_false Bool.false_or Bool.and_true Bool.true_and Bool.and_false Bool.false_and Bool.not_true Bool.not_false Bool.false_eq_true Bool.true_eq_false Bool.not_not beq_self_eq_true decide_true decide_false decide_eq_true_eq and_self and_true true_and false_and and_false or_true true_or or_false false_or reduceIte reduceCtorEq reduceDIte Nat.reduceLT Nat.reduceLeDiff Nat.reduceEqDiff Nat.reduceAdd Nat.reduceSub Nat.reduceMul Nat.reduceBEq Nat.add_zero Nat.zero_add Nat.le_refl Nat.succ_ne_self Nat.one_ne_zero ne_eq not_false_eq_true not_true_eq_false Int.reduceNeg List.getD_cons_zero List.getD_cons_succ List.isEmpty_nil List.isEmpty_cons Int.reduceBEq Int.reduceBNe Int.reduceLT Int.reduceLE Int.reduceEq Int.reduceNe bne_self_eq_false beq_true beq_false BEq.rfl cond_true cond_false Bool.cond_self Bool.cond_true_left Bool.cond_false_right imp_self forall_const implies_true forall_eq' and_assoc false_imp_iff true_imp_iff and_imp
end Go.Kin
