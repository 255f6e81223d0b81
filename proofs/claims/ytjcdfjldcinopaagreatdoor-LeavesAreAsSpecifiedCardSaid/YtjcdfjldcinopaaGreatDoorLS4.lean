/- For every input that the row takes, LeavesAreAsSpecified answers true and leaves its arguments as they were. No condition but the row's own. -/
import Derived.Test.YtjcdfjldcinopaaGreatDoorLP
import Derived.Test.YtjcdfjldcinopaaGreatDoorRows
import Derived.Test.YtjcdfjldcinopaaGreatDoorCards
import Derived.Test.YtjcdfjldcinopaaGreatDoorTie
import Derived.SevenTiedAt
import Derived.LaidLaws
import Derived.Stop.LaidErr
set_option linter.all false
namespace Go.Proofs.YtjcdfjldcinopaaGreatDoor
open Go.Eng Go.RowKit Go.ChangeShapes Go.WideShapes Go.ChangeAt
open Go.Proofs.Tryz (cI)
theorem Tryz.own:ownKnob Tryz.prog.godebug=none:=by kernel_rfl
theorem Tryz.laidOut:laidOutB Tryz.prog=true:=by kernel_rfl
theorem Tryz.g0:Tryz.prog.globalNamed "rivermark/calendar.lengths"=some 0:=by kernel_rfl
theorem Tryz.gt0:(Tryz.prog.globals[0]?).map (·.type)=some 200:=by kernel_rfl
theorem Tryz.g1:Tryz.prog.globalNamed "rivermark/hash.constants"=some 1:=by kernel_rfl
theorem Tryz.gt1:(Tryz.prog.globals[1]?).map (·.type)=some 206:=by kernel_rfl
noncomputable def aHj(os:Os):World:=
  {World.holding Tryz.prog os ⟨#[],#[],[]⟩with heap:=(((World.holding Tryz.prog os ⟨#[],#[],[]⟩).heap.modify 0 fun
      |.cells _ t frozen=>.cells (gl0.map fun z=>Value.int .i64 z).toArray t frozen
      |o=>o).modify 1 fun
      |.cells _ t frozen=>.cells (gl1.map fun z=>Value.int .u32 z).toArray t frozen
      |o=>o)}
theorem aVp(os:Os)(args:Array Value):laidMet Tryz.prog Rows.leavesAreAsSpecifiedRow.laid ((aHj os).forCall (fun _ _=>0) ⟨#[],args,[]⟩).memory:=
  laidMet_of_run' 8 (by kernel_rfl) (by kernel_rfl)
theorem bG3{W:World}(hL:laidMet Tryz.prog [("rivermark/calendar.lengths",Lib.tabData .i64 gl0),("rivermark/hash.constants",Lib.tabData .u32 gl1)] W):GlOk (gOf W):=by
  have t0:=aM7 (Lib.tabIs_of_head Tryz.g0 Tryz.gt0 Tryz.underlying200 Tryz.underlying3 (by kernel_rfl) (by kernel_rfl) hL) Tryz.g0;have l0:=laidMet.tail hL;have t1:=aM7 (Lib.tabIs_of_head Tryz.g1 Tryz.gt1 Tryz.underlying206 Tryz.underlying185 (by kernel_rfl) (by kernel_rfl) l0) Tryz.g1;intro g ds h;unfold aG2 at h;split at h
  · cases h;exact t0
  · cases h;exact t1
  · cases h
set_option maxRecDepth 100000 in
theorem aG0(hc:∀x:tup cI,aNj cI x→ACall Tryz.prog 4 (aHy cI x) [] (.D (.B true)) [] [])
    (os:Os) (started:os.Started) (H:Type) (enc:TypeId×Value→H):
    ReturnsInHanded {} Tryz.checked os 4 .any (fun w args=>(Rows.leavesAreAsSpecifiedSpec.pre enc Tryz.prog Tryz.f4 Rows.leavesAreAsSpecifiedRow.domain false w args∧laidMet Tryz.prog Rows.leavesAreAsSpecifiedRow.laid w)∧sizedMet enc Tryz.prog Tryz.f4 (OpenSpec.ofChange Rows.leavesAreAsSpecifiedSpec) false w args) (Rows.leavesAreAsSpecifiedSpec.post enc Tryz.prog Tryz.f4 false true false false):=by
  refine returnsInHanded_of_change_and (C:=Tryz.checked) (X:=fun w _=>laidMet Tryz.prog Rows.leavesAreAsSpecifiedRow.laid w) (fun _ _ _ hh h=>laidMet.of_heap hh h) Tryz.own started (by kernel_rfl) Tryz.func4
    (ChangeSpec.witness_at (enc:=enc) (C:=Tryz.checked) (os:=os) (X:=fun w _=>laidMet Tryz.prog Rows.leavesAreAsSpecifiedRow.laid w) false (aHj os) #[.agg #[.int .i64 0,.int .i64 0,.int .i64 0,.int .i64 0,.int .i64 0,.int .i64 0,.int .i64 0,.int .i64 0,.int .i64 0,.int .i64 0,.int .i64 0,.int .i64 0,.int .i64 0,.slice none 0 0,.int .i64 0,.int .i64 0,.int .i64 0,.int .i64 0,.int .i64 0,.slice none 0 0],.string ⟨#[]⟩] 8 rfl (by kernel_rfl) (by kernel_rfl) (by kernel_rfl) (by kernel_rfl) (by kernel_rfl) (aVp os _)) ?_
  intro W base args ds gs before hval0 hW _ _ hL _;have hval:∀(j:Nat) t v,Tryz.f4.params[j]?=some t→args[j]?=some v→Value.okWide Tryz.prog W .any base t v:=hval0;have hW':=hW;obtain⟨p,q,hA0,hV,rfl,hfz,hnd⟩:=hW;have hA:DataW.TrodAll enc Tryz.prog W 0 (fun _=>true) true Tryz.f4.params.toList args.toList ds p:=hA0;rw[Tryz.params4]at hA hval;obtain⟨rfl,rfl⟩:=trodVars_none hV;obtain⟨x,hx,hrep⟩:=aMk (m:=fun _=>none) (Ts:=cI) (ts:=[69,9]) (base:=base) (by kernel_rfl) hA (fun j t v h1 h2=>hval j t v (by simpa using h1) (by simpa using h2));obtain⟨_,vs1,d0,ds1,_,_,_,rfl,_,_,hA1⟩:=trodAll_cons hA;obtain⟨_,vs2,d1,ds2,_,_,rfl,rfl,_,_,hA2⟩:=trodAll_cons hA1;obtain⟨rfl,rfl,_⟩:=trodAll_nil hA2;refine(aSw ⟨Tryz.f4,Tryz.func4,by kernel_rfl,by kernel_rfl⟩ (bG3 hL) (vs:=args) (hc x hx) hrep).mono fun e W' ⟨he,hb⟩=>?_;exact⟨_,he,aV8 (tb:=4) Tryz.laidOut hW' rfl rfl (by rfl) Tryz.underlying4 (by rw[Tryz.params4];decide+kernel) hb⟩
theorem aJs(hc:∀x:tup cI,aNj cI x→ACall Tryz.prog 4 (aHy cI x) [] (.D (.B true)) [] []):Rows.LeavesAreAsSpecifiedSaid:=
  OpenClaim.holds_of_wide 4 Tryz.f4 rfl rfl rfl rfl rfl rfl rfl ⟨rfl,rfl,rfl,rfl,rfl⟩ rfl rfl rfl rfl rfl (by kernel_rfl) Tryz.func4 (by kernel_rfl)
    (of_decide_eq_true (by kernel_rfl)) (by unfold Func.isWrapper;first|(rw[if_pos (by decide+kernel)];kernel_rfl)|(rw[if_neg (by decide+kernel)];exact⟨rfl,rfl⟩))
    (fun os started H enc _=>aG0 hc os started H enc)
theorem aM8:Rows.LeavesAreAsSpecifiedSaid:=aJs Go.Proofs.Tryz.leaves_acall
theorem leaves_card:Rows.LeavesAreAsSpecifiedCardSaid:=
  Claim7.holds_tied_plain_at .later [] [.data,.data] true (true,"9a737f114f7d0f4064c359a5961274b907a5bcffab745cc0f882df0ab73e6e6b") true aM8 (fun _ h=>by cases h) (by kernel_rfl) (fun _ h=>by cases h) leavesAreAsSpecified_row_tie rfl ⟨rfl,rfl⟩ (by kernel_rfl) rfl
    (fun f fn hf hfn=>by
      obtain rfl:f=4:=Option.some.inj ((show Tryz.prog.funcNamed "rivermark/rivermarklaw23.LeavesAreAsSpecified"=some 4 by kernel_rfl).symm.trans hf)|>.symm;obtain rfl:fn=Tryz.f4:=(Option.some.inj (Tryz.func4.symm.trans hfn)).symm;exact⟨by kernel_rfl,fun j t ht=>by
        rw[Tryz.params4]at ht;have hm:t∈[69,9]:=by obtain⟨hj,e⟩:=Array.getElem?_eq_some_iff.1 ht;rw[←e];exact Array.getElem_mem_toList hj
        have ha:∀t∈[69,9],Tryz.prog.wantsStandIn t=false:=by decide+kernel
        exact ha t hm⟩)
    (by kernel_rfl)
end Go.Proofs.YtjcdfjldcinopaaGreatDoor
