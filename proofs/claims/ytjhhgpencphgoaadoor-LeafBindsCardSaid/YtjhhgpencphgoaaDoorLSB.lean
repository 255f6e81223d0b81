/- For every input that the row takes, LeafBinds answers true and leaves its arguments as they were. No condition but the row's own. -/
import Derived.Test.YtjhhgpencphgoaaDoorLQ
import Derived.Test.YtjhhgpencphgoaaDoorRows
import Derived.Test.YtjhhgpencphgoaaDoorCards
import Derived.Test.YtjhhgpencphgoaaDoorTie
import Derived.SevenTiedAt
import Derived.LaidLaws
import Derived.Stop.LaidErr
set_option linter.all false
namespace Go.Proofs.YtjhhgpencphgoaaDoor
open Go.Eng Go.RowKit Go.ChangeShapes Go.WideShapes Go.ChangeAt
open Go.Proofs.Tryd (dA)
set_option maxRecDepth 8000 in
theorem cv84 : Cv Tryd.prog 84 (dA[0]).ds 6 (dA[0]).ok := ⟨fun y => Ty.ds_len _ y, by kernel_rfl, fun enc w spare held fuel cs r h => by
  obtain ⟨xs, m, _, _, hcl, hxl, hf⟩ := DataW.trod_array Tryd.underlying84 h
  have hE : Cv Tryd.prog 66 (Ty.w (.p (.i .i64) (.p (.i .i64) (.sl .s)))).ds 3 (Ty.w (.p (.i .i64) (.p (.i .i64) (.sl .s)))).ok := (aEr Tryd.prog (.w (.p (.i .i64) (.p (.i .i64) (.sl .s))))).1 66 (by kernel_rfl)
  have hc : Tryd.prog.cellsOf 84 = 6 := by kernel_rfl
  have g0 := hf 0 (by decide)
  have g1 := hf 1 (by decide)
  rw [List.getElem?_eq_getElem (by omega)] at g0 g1
  obtain ⟨x0, k0, r0⟩ := hE.get enc w spare held m _ _ g0
  obtain ⟨x1, k1, r1⟩ := hE.get enc w spare held m _ _ g1
  rw [hE.cells] at r0 r1
  rw [hc] at hcl
  refine ⟨(x0, x1), ⟨k0, k1⟩, CRep.app 3 r0 ?_⟩
  rw [List.take_of_length_le (by rw [List.length_drop]; omega)] at r1
  exact r1⟩
set_option maxRecDepth 8000 in
theorem binds_get {W : World} {base : Nat} {H : Type} {enc : TypeId × Value → H} {spare : Nat → Bool} {held : Bool} {m : HM} {vs : List Value} {ds : List (DataW H)} {ps : List MemPlace} (hA : DataW.TrodAll enc Tryd.prog W 0 spare held [84, 9, 86] vs ds ps) (hw : ∀ (j : Nat) t v, ([84, 9, 86] : List TypeId)[j]? = some t → vs[j]? = some v → Value.okWide Tryd.prog W .any base t v) : ∃ x : tup dA, aL8 dA x ∧ AV.RepL (gOf W) m (aGj dA x) vs := by
  obtain ⟨v, vs1, d, ds1, p0, p1, rfl, rfl, rfl, t0, hA1⟩ := trodAll_cons hA
  obtain ⟨f0, t0⟩ := t0
  obtain ⟨x, hx, hr⟩ := cv84.get enc W _ _ f0 _ _ t0
  obtain ⟨y, hy, hq⟩ := aK2 (Ts := [.s, dA[2]]) (ts := [9, 86]) (m := m) (by kernel_rfl) hA1 fun j t v h1 h2 => hw (j + 1) t v (by simpa using h1) (by simpa using h2)
  obtain ⟨cs, rfl⟩ := aNi Tryd.underlying84 (hw 0 _ v rfl rfl)
  exact ⟨(x, y), ⟨hx, hy⟩, _, _, rfl, aLm hr, hq⟩
theorem Tryd.own:ownKnob Tryd.prog.godebug=none:=by kernel_rfl
theorem Tryd.laidOut:laidOutB Tryd.prog=true:=by kernel_rfl
theorem Tryd.g0:Tryd.prog.globalNamed "rivermark/calendar.lengths"=some 2:=by kernel_rfl
theorem Tryd.gt0:(Tryd.prog.globals[2]?).map (·.type)=some 232:=by kernel_rfl
theorem Tryd.g1:Tryd.prog.globalNamed "rivermark/hash.constants"=some 3:=by kernel_rfl
theorem Tryd.gt1:(Tryd.prog.globals[3]?).map (·.type)=some 238:=by kernel_rfl
noncomputable def aF5(os:Os):World:=
  {World.holding Tryd.prog os ⟨#[],#[],[]⟩with heap:=(((World.holding Tryd.prog os ⟨#[],#[],[]⟩).heap.modify 2 fun
      |.cells _ t frozen=>.cells (gl2.map fun z=>Value.int .i64 z).toArray t frozen
      |o=>o).modify 3 fun
      |.cells _ t frozen=>.cells (gl3.map fun z=>Value.int .u32 z).toArray t frozen
      |o=>o)}
theorem aVi(os:Os)(args:Array Value):laidMet Tryd.prog Rows.leafBindsRow.laid ((aF5 os).forCall (fun _ _=>0) ⟨#[],args,[]⟩).memory:=
  laidMet_of_run' 8 (by kernel_rfl) (by kernel_rfl)
theorem bGn{W:World}(hL:laidMet Tryd.prog [("rivermark/calendar.lengths",Lib.tabData .i64 gl2),("rivermark/hash.constants",Lib.tabData .u32 gl3)] W):GlOk (gOf W):=by
  have t0:=aKz (Lib.tabIs_of_head Tryd.g0 Tryd.gt0 Tryd.underlying232 Tryd.underlying3 (by kernel_rfl) (by kernel_rfl) hL) Tryd.g0;have l0:=laidMet.tail hL;have t1:=aKz (Lib.tabIs_of_head Tryd.g1 Tryd.gt1 Tryd.underlying238 Tryd.underlying201 (by kernel_rfl) (by kernel_rfl) l0) Tryd.g1;intro g ds h;unfold aFy at h;split at h
  · cases h;exact t0
  · cases h;exact t1
  · cases h
set_option maxRecDepth 100000 in
theorem aHd(hc:∀x:tup dA,aL8 dA x→ACall Tryd.prog 10 (aGj dA x) [] (.D (.B true)) [] [])
    (os:Os) (started:os.Started) (H:Type) (enc:TypeId×Value→H):
    ReturnsInHanded {} Tryd.checked os 10 .any (fun w args=>(Rows.leafBindsSpec.pre enc Tryd.prog Tryd.f10 Rows.leafBindsRow.domain false w args∧laidMet Tryd.prog Rows.leafBindsRow.laid w)∧sizedMet enc Tryd.prog Tryd.f10 (OpenSpec.ofChange Rows.leafBindsSpec) false w args) (Rows.leafBindsSpec.post enc Tryd.prog Tryd.f10 false true false false):=by
  refine returnsInHanded_of_change_and (C:=Tryd.checked) (X:=fun w _=>laidMet Tryd.prog Rows.leafBindsRow.laid w) (fun _ _ _ hh h=>laidMet.of_heap hh h) Tryd.own started (by kernel_rfl) Tryd.func10
    (ChangeSpec.witness_at (enc:=enc) (C:=Tryd.checked) (os:=os) (X:=fun w _=>laidMet Tryd.prog Rows.leafBindsRow.laid w) false (aF5 os) #[.agg #[.int .i64 0,.int .i64 0,.slice none 0 0,.int .i64 0,.int .i64 0,.slice none 0 0],.string ⟨#[]⟩,.agg #[.int .u8 0,.int .u8 0,.int .u8 0,.int .u8 0,.int .u8 0,.int .u8 0,.int .u8 0,.int .u8 0,.int .u8 0,.int .u8 0,.int .u8 0,.int .u8 0,.int .u8 0,.int .u8 0,.int .u8 0,.int .u8 0,.int .i64 0,.int .i64 0,.int .u8 0,.int .u8 0,.int .u8 0,.int .u8 0,.int .u8 0,.int .u8 0,.int .u8 0,.int .u8 0,.int .u8 0,.int .u8 0,.int .u8 0,.int .u8 0,.int .u8 0,.int .u8 0,.int .u8 0,.int .u8 0,.slice none 0 0,.int .i64 0,.int .i64 0,.int .u8 0,.int .u8 0,.int .u8 0,.int .u8 0,.int .u8 0,.int .u8 0,.int .u8 0,.int .u8 0,.int .u8 0,.int .u8 0,.int .u8 0,.int .u8 0,.int .u8 0,.int .u8 0,.int .u8 0,.int .u8 0,.string ⟨#[]⟩,.string ⟨#[]⟩,.slice none 0 0,.slice none 0 0]] 8 rfl (by kernel_rfl) (by kernel_rfl) (by kernel_rfl) (by kernel_rfl) (by kernel_rfl) (aVi os _)) ?_
  intro W base args ds gs before hval0 hW _ _ hL _;have hval:∀(j:Nat) t v,Tryd.f10.params[j]?=some t→args[j]?=some v→Value.okWide Tryd.prog W .any base t v:=hval0;have hW':=hW;obtain⟨p,q,hA0,hV,rfl,hfz,hnd⟩:=hW;have hA:DataW.TrodAll enc Tryd.prog W 0 (fun _=>true) true Tryd.f10.params.toList args.toList ds p:=hA0;rw[Tryd.params10]at hA hval;obtain⟨rfl,rfl⟩:=trodVars_none hV;obtain⟨x,hx,hrep⟩:=binds_get (m:=fun _=>none) (base:=base) hA (fun j t v h1 h2=>hval j t v (by simpa using h1) (by simpa using h2));obtain⟨_,vs1,d0,ds1,_,_,_,rfl,_,_,hA1⟩:=trodAll_cons hA;obtain⟨_,vs2,d1,ds2,_,_,rfl,rfl,_,_,hA2⟩:=trodAll_cons hA1;obtain⟨_,vs3,d2,ds3,_,_,rfl,rfl,_,_,hA3⟩:=trodAll_cons hA2;obtain⟨rfl,rfl,_⟩:=trodAll_nil hA3;refine(aRk ⟨Tryd.f10,Tryd.func10,by kernel_rfl,by kernel_rfl⟩ (bGn hL) (vs:=args) (hc x hx) hrep).mono fun e W' ⟨he,hb⟩=>?_;exact⟨_,he,aU1 (tb:=4) Tryd.laidOut hW' rfl rfl (by rfl) Tryd.underlying4 (by rw[Tryd.params10];decide+kernel) hb⟩
theorem aMa(hc:∀x:tup dA,aL8 dA x→ACall Tryd.prog 10 (aGj dA x) [] (.D (.B true)) [] []):Rows.LeafBindsSaid:=
  OpenClaim.holds_of_wide 10 Tryd.f10 rfl rfl rfl rfl rfl rfl rfl ⟨rfl,rfl,rfl,rfl,rfl⟩ rfl rfl rfl rfl rfl (by kernel_rfl) Tryd.func10 (by kernel_rfl)
    (of_decide_eq_true (by kernel_rfl)) (by unfold Func.isWrapper;first|(rw[if_pos (by decide+kernel)];kernel_rfl)|(rw[if_neg (by decide+kernel)];exact⟨rfl,rfl⟩))
    (fun os started H enc _=>aHd hc os started H enc)
theorem aMp:Rows.LeafBindsSaid:=aMa Go.Proofs.Tryd.binds_acall
theorem binds_card:Rows.LeafBindsCardSaid:=
  Claim7.holds_tied_plain_at .later [] [.data,.data] true (true,"81ac52f078b63a2afad7e3117cff2836913e2444110d93355cacfc2370b8fad1") true aMp (fun _ h=>by cases h) (by kernel_rfl) (fun _ h=>by cases h) leafBinds_row_tie rfl ⟨rfl,rfl⟩ (by kernel_rfl) rfl
    (fun f fn hf hfn=>by
      obtain rfl:f=10:=Option.some.inj ((show Tryd.prog.funcNamed "rivermark/rivermarklaw23.LeafBinds"=some 10 by kernel_rfl).symm.trans hf)|>.symm;obtain rfl:fn=Tryd.f10:=(Option.some.inj (Tryd.func10.symm.trans hfn)).symm;exact⟨by kernel_rfl,fun j t ht=>by
        rw[Tryd.params10]at ht;have hm:t∈[84,9,86]:=by obtain⟨hj,e⟩:=Array.getElem?_eq_some_iff.1 ht;rw[←e];exact Array.getElem_mem_toList hj
        have ha:∀t∈[84,9,86],Tryd.prog.wantsStandIn t=false:=by decide+kernel
        exact ha t hm⟩)
    (by kernel_rfl)
end Go.Proofs.YtjhhgpencphgoaaDoor
