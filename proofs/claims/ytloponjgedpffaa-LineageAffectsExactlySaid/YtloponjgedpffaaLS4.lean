/- Texts of this claim. -/
import Derived.Test.YtloponjgedpffaaLU
import Derived.Test.YtloponjgedpffaaRows
set_option linter.all false
set_option linter.unusedSimpArgs false
set_option linter.unusedVariables false
namespace Go.Proofs.Ytloponjgedpffaa
open Go.Eng Go.RowKit Go.ChangeShapes Go.WideShapes Go.ChangeAt
abbrev affects_Ts:List Ty:=[.sl (.w (.p (.i .i64) (.p (.sl (.w (.p (.i .i64) (.p (.i .i64) (.p (.i .i64) (.i .i64)))))) (.sl (.i .i64))))),.sl (.w (.p (.i .i64) (.p (.i .i64) (.p (.i .i64) (.i .i64))))),.sl (.w (.p (.i .i64) (.p (.i .i64) (.p (.i .i64) (.i .i64)))))]
theorem Try.own:ownKnob Try.prog.godebug=none:=by kernel_rfl
theorem Try.laidOut:laidOutB Try.prog=true:=by kernel_rfl
theorem glOk {W:World}:GlOk (gOf W):=fun g ds h=>by cases h
set_option maxRecDepth 100000 in
theorem affects_lifted (hc:∀ x:tup affects_Ts,okTup affects_Ts x->ACall Try.prog 4 (erTup affects_Ts x) [] (.D (.B true)) [] [])
  (os:Os) (started:os.Started) (H:Type) (enc:TypeId × Value->H) :
  ReturnsInHanded {} Try.checked os 4 .any (Rows.lineageAffectsExactlySpec.pre6 enc Try.prog Try.f4 Rows.lineageAffectsExactlyRow.domain false) (Rows.lineageAffectsExactlySpec.post enc Try.prog Try.f4 false true false false):=by
 refine returnsInHanded_of_change (C:=Try.checked) Try.own started (by kernel_rfl) Try.func4
  (ChangeSpec.witness6 (enc:=enc) (C:=Try.checked) false ⟨#[],#[.slice none 0 0,.slice none 0 0,.slice none 0 0],[]⟩ 8 (by kernel_rfl) (by kernel_rfl) (by kernel_rfl) (by kernel_rfl)) ?_
 intro W base args ds gs before hval0 hW hcnd _
 have hval:∀ (j:Nat) t v,Try.f4.params[j]?=some t->args[j]?=some v->Value.okWide Try.prog W .any base t v:=hval0
 have hW':=hW
 obtain ⟨p,q,hA0,hV,rfl,hfz,hnd⟩:=hW
 have hA:DataW.TrodAll enc Try.prog W 0 (fun _=>true) true Try.f4.params.toList args.toList ds p:=hA0
 rw [Try.params4] at hA hval
 obtain ⟨rfl,rfl⟩:=trodVars_none hV
 obtain ⟨x,hx,hrep⟩:=args_get (m:=fun _=>none) (Ts:=affects_Ts) (ts:=[22,23,23]) (base:=base) (by kernel_rfl) hA (fun j t v h1 h2=>hval j t v (by simpa using h1) (by simpa using h2))
 obtain ⟨_,vs1,d0,ds1,_,_,_,rfl,_,_,hA1⟩:=trodAll_cons hA
 obtain ⟨_,vs2,d1,ds2,_,_,rfl,rfl,_,_,hA2⟩:=trodAll_cons hA1
 obtain ⟨_,vs3,d2,ds3,_,_,rfl,rfl,_,_,hA3⟩:=trodAll_cons hA2
 obtain ⟨rfl,rfl,_⟩:=trodAll_nil hA3
 refine (law_calls ⟨Try.f4,Try.func4,by kernel_rfl,by kernel_rfl⟩ glOk (vs:=args) (hc x hx) hrep).mono fun e W' ⟨he,hb⟩=>?_
 exact ⟨_,he,law_post (tb:=4) Try.laidOut hW' rfl rfl (by rfl) Try.underlying4 (by rw [Try.params4];decide +kernel) hb⟩
theorem affects_holds (hc:∀ x:tup affects_Ts,okTup affects_Ts x->ACall Try.prog 4 (erTup affects_Ts x) [] (.D (.B true)) [] []):Rows.LineageAffectsExactlySaid :=
 OpenClaim.holds_of_wide 4 Try.f4 rfl rfl rfl rfl rfl rfl rfl ⟨rfl,rfl,rfl,rfl,rfl⟩ rfl rfl rfl rfl rfl (by kernel_rfl) Try.func4 (by kernel_rfl)
  (of_decide_eq_true (by kernel_rfl)) (by unfold Func.isWrapper;first | (rw [if_pos (by decide +kernel)];kernel_rfl) | (rw [if_neg (by decide +kernel)];exact ⟨rfl,rfl⟩))
  (fun os started H enc _=>affects_lifted hc os started H enc)
theorem affects_one (N:Nat) (x0:(affects_Ts[0]).T) (x1:(affects_Ts[1]).T) (x2:(affects_Ts[2]).T) (h:Go.Proofs.Try.G_law26_LineageAffectsExactly N x0 x1 x2=some true):ACall Try.prog 4 (erTup affects_Ts (x0,x1,x2,())) [] (.D (.B true)) [] [] :=
 letI:YL:=⟨0⟩
 Go.Proofs.Try.s_law26_LineageAffectsExactly N (x0,x1,x2,()) true h [] rfl
theorem affects_acall:∀ x:tup affects_Ts,okTup affects_Ts x->ACall Try.prog 4 (erTup affects_Ts x) [] (.D (.B true)) [] []
 | (x0,x1,x2,()),hx=>affects_one 6000 x0 x1 x2 (Go.Proofs.Try.affects_true x0 x1 x2)
theorem affects_said:Rows.LineageAffectsExactlySaid:=affects_holds affects_acall
end Go.Proofs.Ytloponjgedpffaa

