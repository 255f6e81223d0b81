/- Texts of this claim. -/
import Derived.Test.YtloponjgedpffaaGreatZP5
import Derived.Test.YtloponjgedpffaaGreatRows
set_option linter.all false
set_option linter.unusedSimpArgs false
set_option linter.unusedVariables false
namespace Go.Proofs.YtloponjgedpffaaGreat
open Go.Eng Go.RowKit Go.ChangeShapes Go.WideShapes Go.ChangeAt
abbrev stands_Ts:List Ty:=[.sl (.w (.p (.i .i64) (.p (.sl (.w (.p (.i .i64) (.p (.i .i64) (.p (.i .i64) (.i .i64)))))) (.sl (.i .i64)))))]
theorem Tryz.own:ownKnob Tryz.prog.godebug=none:=by kernel_rfl
theorem Tryz.laidOut:laidOutB Tryz.prog=true:=by kernel_rfl
theorem glOk {W:World}:GlOk (gOf W):=fun g ds h=>by cases h
set_option maxRecDepth 100000 in
theorem stands_lifted (hc:∀ x:tup stands_Ts,okTup stands_Ts x->ACall Tryz.prog 5 (erTup stands_Ts x) [] (.D (.B true)) [] [])
  (os:Os) (started:os.Started) (H:Type) (enc:TypeId × Value->H) :
  ReturnsInHanded {} Tryz.checked os 5 .any (Rows.lineageStandsSpec.pre6 enc Tryz.prog Tryz.f5 Rows.lineageStandsRow.domain false) (Rows.lineageStandsSpec.post enc Tryz.prog Tryz.f5 false true false false):=by
 refine returnsInHanded_of_change (C:=Tryz.checked) Tryz.own started (by kernel_rfl) Tryz.func5
  (ChangeSpec.witness6 (enc:=enc) (C:=Tryz.checked) false ⟨#[],#[.slice none 0 0],[]⟩ 8 (by kernel_rfl) (by kernel_rfl) (by kernel_rfl) (by kernel_rfl)) ?_
 intro W base args ds gs before hval0 hW hcnd _
 have hval:∀ (j:Nat) t v,Tryz.f5.params[j]?=some t->args[j]?=some v->Value.okWide Tryz.prog W .any base t v:=hval0
 have hW':=hW
 obtain ⟨p,q,hA0,hV,rfl,hfz,hnd⟩:=hW
 have hA:DataW.TrodAll enc Tryz.prog W 0 (fun _=>true) true Tryz.f5.params.toList args.toList ds p:=hA0
 rw [Tryz.params5] at hA hval
 obtain ⟨rfl,rfl⟩:=trodVars_none hV
 obtain ⟨x,hx,hrep⟩:=args_get (m:=fun _=>none) (Ts:=stands_Ts) (ts:=[22]) (base:=base) (by kernel_rfl) hA (fun j t v h1 h2=>hval j t v (by simpa using h1) (by simpa using h2))
 obtain ⟨_,vs1,d0,ds1,_,_,_,rfl,_,_,hA1⟩:=trodAll_cons hA
 obtain ⟨rfl,rfl,_⟩:=trodAll_nil hA1
 refine (law_calls ⟨Tryz.f5,Tryz.func5,by kernel_rfl,by kernel_rfl⟩ glOk (vs:=args) (hc x hx) hrep).mono fun e W' ⟨he,hb⟩=>?_
 exact ⟨_,he,law_post (tb:=4) Tryz.laidOut hW' rfl rfl (by rfl) Tryz.underlying4 (by rw [Tryz.params5];decide +kernel) hb⟩
theorem stands_holds (hc:∀ x:tup stands_Ts,okTup stands_Ts x->ACall Tryz.prog 5 (erTup stands_Ts x) [] (.D (.B true)) [] []):Rows.LineageStandsSaid :=
 OpenClaim.holds_of_wide 5 Tryz.f5 rfl rfl rfl rfl rfl rfl rfl ⟨rfl,rfl,rfl,rfl,rfl⟩ rfl rfl rfl rfl rfl (by kernel_rfl) Tryz.func5 (by kernel_rfl)
  (of_decide_eq_true (by kernel_rfl)) (by unfold Func.isWrapper;first | (rw [if_pos (by decide +kernel)];kernel_rfl) | (rw [if_neg (by decide +kernel)];exact ⟨rfl,rfl⟩))
  (fun os started H enc _=>stands_lifted hc os started H enc)
theorem stands_one (N:Nat) (x0:(stands_Ts[0]).T) (h:Go.Proofs.Tryz.G_law26_LineageStands N x0=some true):ACall Tryz.prog 5 (erTup stands_Ts (x0,())) [] (.D (.B true)) [] [] :=
 letI:YL:=⟨0⟩
 Go.Proofs.Tryz.s_law26_LineageStands N (x0,()) true h [] rfl
theorem stands_acall:∀ x:tup stands_Ts,okTup stands_Ts x->ACall Tryz.prog 5 (erTup stands_Ts x) [] (.D (.B true)) [] []
 | (x0,()),hx=>stands_one 6000 x0 (Go.Proofs.Tryz.stands_true x0)
theorem stands_said:Rows.LineageStandsSaid:=stands_holds stands_acall
end Go.Proofs.YtloponjgedpffaaGreat

