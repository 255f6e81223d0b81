/- Texts of this claim. -/
import Derived.Test.YtloponjgedpffaaGreatLZ6
import Derived.Test.YtloponjgedpffaaGreatYB
set_option linter.all false
set_option linter.unusedSimpArgs false
set_option linter.unusedVariables false
set_option synthInstance.maxSize 100000000
set_option synthInstance.maxHeartbeats 4000000
set_option maxRecDepth 100000
namespace Go.Proofs.Tryz
open Go.Eng Go.RowKit
abbrev Rd:=Int × Int × Int × Int
abbrev De:=Int × List Rd × List Int
abbrev Ch:=Int × Int × Int × Int
theorem fX {a b:Nat} (h:a < b):decide ((a:Int) < ((b:Nat):Int))=true:=decide_eq_true (by omega)
theorem gI {a b:Nat} (h:¬ a < b):decide ((a:Int) < ((b:Nat):Int))=false:=decide_eq_false (by omega)
theorem bU {α:Type} {l:List α} {k:Nat} (h:k < l.length):l[k]?=some l[k]:=List.getElem?_eq_getElem h
def asc:List Int->Bool
 | []=>true
 | [_]=>true
 | a :: b :: r=>!decide (b <= a) && asc (b :: r)
theorem aNi {l:List Int} (hl:l.length <= 4611686018427387904):∀ (m k:Nat),1 <= k->l.length - k < m->iG m l (k:Int)=some (asc (l.drop (k - 1)))
 | 0,_,_,h=>absurd h (Nat.not_lt_zero _)
 | m + 1,k,h1,h=>by
  show iJ (iG m) l _=_
  unfold iJ
  by_cases hlt:k < l.length
  ·have e:((k:Int) - 1).toNat=k - 1:=by omega
   rw [fX hlt,aG,bM (bU hlt),bV (by omega) (by omega),tI (by omega) (by rw [e];exact bU (by omega)),bG6]
   rw [List.drop_eq_getElem_cons (show k - 1 < l.length by omega),show k - 1 + 1=k by omega,List.drop_eq_getElem_cons hlt,asc]
   by_cases hc:l[k] <= l[k - 1]
   ·rw [if_pos (decide_eq_true hc),decide_eq_true hc];rfl
   ·rw [if_neg (by simpa using hc),decide_eq_false hc,bV (by omega) (by omega)]
    have:=aNi hl m (k + 1) (by omega) (by omega)
    rw [show ((k:Int) + 1)=((k + 1:Nat):Int) by omega,this,show k + 1 - 1=k by omega,List.drop_eq_getElem_cons hlt];rfl
  ·rw [gI hlt,aC]
   have:(l.drop (k - 1)).length <= 1:=by rw [List.length_drop];omega
   match hd:l.drop (k - 1),this with
   | [],_=>rfl
   | [_],_=>rfl
theorem aP2 {N:Nat} {l:List Int} (hl:l.length <= 4611686018427387904) (hN:l.length < N):dW N l=some (asc l):=by
 unfold dW
 exact aNi hl N 1 (Nat.le_refl _) (by omega)
theorem aDn:∀ {l:List Int},asc l=true ↔ l.Pairwise (· < ·)
 | []=>by simp [asc]
 | [_]=>by simp [asc]
 | a :: b :: r=>by
  have ih:=aDn (l:=b :: r)
  unfold asc
  rw [Bool.and_eq_true,ih,List.pairwise_cons (a:=a)]
  constructor
  ·rintro ⟨h1,h2⟩
   have h1:a < b:=by simpa using h1
   refine ⟨fun x hx=>?_,h2⟩
   rcases List.mem_cons.1 hx with rfl | hx
   ·exact h1
   ·exact Int.lt_trans h1 (List.rel_of_pairwise_cons h2 hx)
  ·rintro ⟨h1,h2⟩
   exact ⟨by simpa using h1 b List.mem_cons_self,h2⟩
def aG3 (x:Rd):Bool:=decide (x.1 < 0) || decide (x.1 ≥ 40) || decide (x.2.2.1 < 0) || decide (x.2.2.2 <= x.2.2.1) || decide (x.2.2.2 > 1402560) || decide (x.2.1 <= 0) || (bits .andNot .i64 x.2.1 15) != 0
def aL1 (id:Int) (l:List Int):Bool:=match l with
 | []=>true
 | a :: r=>decide (a ≥ 1) && decide ((a :: r).getLast (by simp) < id)
def cR (d:De):Bool:=!(decide (d.1 < 1) || decide (d.1 > 1099511627776) || decide ((d.2.1.length:Int) > 40) || !asc d.2.2) && !d.2.1.any aG3 && aL1 d.1 d.2.2
theorem aFf {id:Int} {rs:List Rd} {of:List Int} (hr:rs.length <= 4611686018427387904) (ho:of.length <= 4611686018427387904):∀ (m k:Nat),k <= rs.length->rs.length - k < m ->
  dX m rs ((rs.length:Nat):Int) (k:Int) id rs of=some (!(rs.drop k).any aG3 && aL1 id of)
 | 0,_,_,h=>absurd h (Nat.not_lt_zero _)
 | m + 1,k,h1,h=>by
  show kG (dX m) rs _ _ _ rs of=_
  unfold kG
  by_cases hlt:k < rs.length
  ·rw [fX hlt,aG,bM (bU hlt),List.drop_eq_getElem_cons hlt,List.any_cons]
   generalize hx:rs[k]=x
   have main:bd? (if? (decide (x.1 < 0)) (some (rs,((rs.length:Nat):Int),(k:Int),true,id,rs,of)) (if? (decide (x.1 ≥ 40)) (some (rs,((rs.length:Nat):Int),(k:Int),true,id,rs,of)) (if? (decide (x.2.2.1 < 0)) (some (rs,((rs.length:Nat):Int),(k:Int),true,id,rs,of)) (if? (decide (x.2.2.2 <= x.2.2.1)) (some (rs,((rs.length:Nat):Int),(k:Int),true,id,rs,of)) (if? (decide (x.2.2.2 > 1402560)) (some (rs,((rs.length:Nat):Int),(k:Int),true,id,rs,of)) (if? (decide (x.2.1 <= 0)) (some (rs,((rs.length:Nat):Int),(k:Int),true,id,rs,of)) (some (rs,((rs.length:Nat):Int),(k:Int),((bits .andNot .i64 x.2.1 15) != 0),id,rs,of)))))))) (fun w:List Rd × Int × Int × Bool × Int × List Rd × List Int=>if? w.2.2.2.1 (some false) (ck .i64 (w.2.2.1 + 1) (dX m w.1 w.2.1 (w.2.2.1 + 1) w.2.2.2.2.1 w.2.2.2.2.2.1 w.2.2.2.2.2.2))) =
     if? (aG3 x) (some false) (ck .i64 ((k:Int) + 1) (dX m rs ((rs.length:Nat):Int) ((k:Int) + 1) id rs of)):=by
    unfold aG3
    cases decide (x.1 < 0) <;> cases decide (x.1 ≥ 40) <;> cases decide (x.2.2.1 < 0) <;> cases decide (x.2.2.2 <= x.2.2.1) <;> cases decide (x.2.2.2 > 1402560) <;> cases decide (x.2.1 <= 0) <;> rfl
   refine main.trans ?_
   cases hb:aG3 x with
   | true=>rfl
   | false =>
    rw [aC,bV (by omega) (by omega),show ((k:Int) + 1)=((k + 1:Nat):Int) by omega,aFf hr ho m (k + 1) (by omega) (by omega)]
    rfl
  ·rw [gI hlt,aC,List.drop_of_length_le (by omega)]
   cases of with
   | nil=>rfl
   | cons a r =>
    have e0:((((a :: r).length:Nat):Int) == 0)=false:=by
     have:(((a :: r).length:Nat):Int) ≠ 0:=by simp;omega
     simpa using this
    rw [e0,aC,tI (x:=a) (by omega) rfl]
    have e1:((((a :: r).length:Nat):Int) - 1).toNat=(a :: r).length - 1:=by omega
    have hlen:(a :: r).length=r.length + 1:=rfl
    simp only [aL1]
    by_cases ha:a ≥ 1
    ·rw [decide_eq_true ha,aG,bV (by omega) (by omega),tI (x:=(a :: r).getLast (by simp)) (by omega) (by rw [e1,bU (by omega),List.getLast_eq_getElem])]
     rfl
    ·rw [decide_eq_false ha,aC];rfl
theorem aK8 {N:Nat} {d:De} (hr:d.2.1.length <= 4611686018427387904) (ho:d.2.2.length <= 4611686018427387904) (h1:d.2.1.length < N) (h2:d.2.2.length < N):bK N d=some (cR d):=by
 unfold bK cR
 rw [aP2 ho h2]
 have hl:=aFf (id:=d.1) (of:=d.2.2) hr ho N 0 (Nat.zero_le _) (by omega)
 rw [List.drop_zero] at hl
 cases decide (d.1 < 1) <;> cases decide (d.1 > 1099511627776) <;> cases decide ((d.2.1.length:Int) > 40) <;> cases asc d.2.2 <;> first | rfl | exact hl
abbrev ids (l:List De):List Int:=l.map (·.1)
abbrev Srt (l:List De):Prop:=(ids l).Pairwise (· < ·)
def cnt:List De->Int->Nat
 | [],_=>0
 | d :: r,id=>if d.1 < id then cnt r id + 1 else 0
theorem aYh:∀ (l:List De) (id:Int),cnt l id <= l.length
 | [],_=>Nat.le_refl _
 | d :: r,id=>by
  unfold cnt
  have:=aYh r id
  split <;> simp <;> omega
theorem aGn {id:Int}:∀ {l:List De},Srt l->∀ (i:Nat) (h:i < l.length),l[i].1 < id ↔ i < cnt l id
 | [],_,i,h=>by cases h
 | d :: r,hs,i,h=>by
  have hs':(d.1 :: ids r).Pairwise (· < ·):=hs
  unfold cnt
  by_cases hd:d.1 < id
  ·rw [if_pos hd]
   cases i with
   | zero=>simpa using hd
   | succ i =>
    have:=aGn (id:=id) hs'.tail i (by simpa using h)
    rw [List.getElem_cons_succ,this];omega
  ·rw [if_neg hd]
   cases i with
   | zero=>simpa using hd
   | succ i =>
    have hlt:i < r.length:=by simpa using h
    have:d.1 < r[i].1:=List.rel_of_pairwise_cons hs' (List.mem_map.2 ⟨r[i],List.getElem_mem hlt,rfl⟩)
    rw [List.getElem_cons_succ]
    constructor
    ·intro q;omega
    ·intro q;omega
theorem aBe {l:List De} (hs:Srt l) {id:Int}:(∃ h:cnt l id < l.length,l[cnt l id].1=id) ↔ id ∈ ids l:=by
 constructor
 ·rintro ⟨h,e⟩
  exact List.mem_map.2 ⟨_,List.getElem_mem h,e⟩
 ·intro h
  obtain ⟨d,hd,rfl⟩:=List.mem_map.1 h
  obtain ⟨j,hj,rfl⟩:=List.getElem_of_mem hd
  have h1:¬ j < cnt l l[j].1:=fun q=>by
   have:=(aGn hs j hj).2 q;omega
  have h2:∀ i,(hi:i < j)->i < cnt l l[j].1:=fun i hi=>(aGn hs i (by omega)).1 (by
   have:=List.pairwise_iff_getElem.1 hs i j (by rw [List.length_map];omega) (by rw [List.length_map];omega) hi
   simpa using this)
  have h3:cnt l l[j].1=j:=by
   rcases Nat.lt_or_ge (cnt l l[j].1) j with q | q
   ·exact absurd (h2 _ q) (Nat.lt_irrefl _)
   ·omega
  exact ⟨by omega,by simp [h3]⟩
def aJa (a b:Int):Int:=if a < b then -1 else if a > b then 1 else 0
theorem aOd {N:Nat} {a b:Int}:bB N a b=some (aJa a b):=by
 unfold bB dK aJa
 rw [show (a != a)=false by simp,show (b != b)=false by simp]
 simp only [aL,aC]
 by_cases h:a < b
 ·rw [decide_eq_true h,if_pos h];rfl
 ·rw [decide_eq_false h,if_neg h]
  by_cases h2:a > b
  ·rw [decide_eq_true h2,if_pos h2];rfl
  ·rw [decide_eq_false h2,if_neg h2];rfl
theorem aU9 {N:Nat} {d:De} {id:Int}:gP N d id=some (aJa d.1 id):=by
 unfold gP
 rw [aOd];rfl
theorem bD1 {n:Nat} (h:n <= 9223372036854775807):(IntKind.wrap .i64 ((IntKind.wrap .u64 (n:Int)) / (2 ^ 1)))=((n / 2:Nat):Int):=by
 rw [show IntKind.wrap .u64 (n:Int)=(n:Int) by rw [IntKind.wrap_u64];omega,aYw (by omega) (by omega)];omega
theorem aKh {N:Nat} {l:List De} (hs:Srt l) (hl:l.length <= 4611686018427387904) {id:Int}:∀ (m lo hi:Nat),lo <= cnt l id->cnt l id <= hi->hi <= l.length->hi - lo < m ->
  bD N m l id ((l.length:Nat):Int) (lo:Int) (hi:Int)=some (((cnt l id:Nat):Int),decide (id ∈ ids l))
 | 0,_,_,_,_,_,h=>absurd h (Nat.not_lt_zero _)
 | m + 1,lo,hi,h1,h2,h3,h=>by
  show bE N (bD N m) l id _ _ _=_
  unfold bE
  by_cases hlt:lo < hi
  ·rw [fX hlt,aG,bV (by omega) (by omega),show (lo:Int) + (hi:Int)=((lo + hi:Nat):Int) by omega,bD1 (by omega)]
   have hm:(lo + hi) / 2 < l.length:=by omega
   rw [bM (bU hm),aU9 (d:=l[(lo + hi) / 2])]
   simp only [aL]
   have hc:=aGn (id:=id) hs _ hm
   by_cases hlt2:l[(lo + hi) / 2].1 < id
   ·have:=hc.1 hlt2
    rw [show decide (aJa l[(lo + hi) / 2].1 id < 0)=true by unfold aJa;rw [if_pos hlt2];rfl,aG,bV (by omega) (by omega),show (((lo + hi) / 2:Nat):Int) + 1=(((lo + hi) / 2 + 1:Nat):Int) by omega]
    exact aKh hs hl m _ hi (by omega) h2 h3 (by omega)
   ·have:¬ (lo + hi) / 2 < cnt l id:=fun q=>hlt2 (hc.2 q)
    rw [show decide (aJa l[(lo + hi) / 2].1 id < 0)=false by unfold aJa;rw [if_neg hlt2];split <;> rfl,aC]
    exact aKh hs hl m lo _ h1 (by omega) (by omega) (by omega)
  ·have e:lo=cnt l id:=by omega
   rw [gI hlt,aC]
   have hf:=aBe hs (id:=id)
   by_cases hlen:lo < l.length
   ·rw [fX hlen,aG,bM (bU hlen),aU9 (d:=l[lo])]
    simp only [aL]
    have:(aJa l[lo].1 id == 0)=decide (id ∈ ids l):=by
     have hn:¬ l[lo].1 < id:=fun q=>by have:=(aGn hs lo hlen).1 q;omega
     unfold aJa
     rw [if_neg hn]
     by_cases hg:l[lo].1 > id
     ·rw [if_pos hg]
      have:¬ id ∈ ids l:=fun q=>by
       obtain ⟨_,q⟩:=hf.2 q
       simp only [<- e] at q;omega
      rw [decide_eq_false this];rfl
     ·rw [if_neg hg]
      have:id ∈ ids l:=hf.1 ⟨by omega,by simp only [<- e];omega⟩
      rw [decide_eq_true this];rfl
    rw [this,e]
   ·rw [gI hlen,aC]
    have:¬ id ∈ ids l:=fun q=>by obtain ⟨q,_⟩:=hf.2 q;omega
    rw [decide_eq_false this,e];rfl
theorem aYm {N:Nat} {l:List De} (hs:Srt l) (hl:l.length <= 4611686018427387904) (hN:l.length < N) {id:Int}:hJ N l id=some (((cnt l id:Nat):Int),decide (id ∈ ids l)):=by
 unfold hJ bG
 have:=aKh (N:=N) hs hl (id:=id) N 0 l.length (Nat.zero_le _) (aYh _ _) (Nat.le_refl _) (by omega)
 rw [show ((0:Nat):Int)=0 from rfl] at this
 rw [this];rfl
theorem aGo {N:Nat} {l:List De} (hs:Srt l) (hl:l.length <= 4611686018427387904) (hN:l.length < N) {is:List Int} (hi:is.length <= 4611686018427387904):∀ (m k:Nat),k <= is.length->is.length - k < m ->
  jV N m l is ((is.length:Nat):Int) (k:Int)=some ((is.drop k).all fun i=>decide (i ∈ ids l))
 | 0,_,_,h=>absurd h (Nat.not_lt_zero _)
 | m + 1,k,h1,h=>by
  show kN N (jV N m) l is _ _=_
  unfold kN
  by_cases hlt:k < is.length
  ·rw [fX hlt,aG,bM (bU hlt),aYm hs hl hN,List.drop_eq_getElem_cons hlt,List.all_cons]
   simp only [aL]
   cases decide (is[k] ∈ ids l) with
   | false=>rfl
   | true =>
    show if? (!true) _ _=_
    rw [oG,aG,bV (by omega) (by omega),show ((k:Int) + 1)=((k + 1:Nat):Int) by omega,aGo hs hl hN hi m (k + 1) (by omega) (by omega)]
    rfl
  ·rw [gI hlt,aC,List.drop_of_length_le (by omega)];rfl
theorem aLo {N:Nat} {l:List De} (hs:Srt l) (hl:l.length <= 4611686018427387904) (hN:l.length < N) {is:List Int} (hi:is.length <= 4611686018427387904) (hN2:is.length < N):bH N l is=some (is.all fun i=>decide (i ∈ ids l)):=by
 unfold bH
 have:=aGo hs hl hN hi N 0 (Nat.zero_le _) (by omega)
 rw [List.drop_zero] at this
 exact this
def okD (pre:List De) (d:De):Bool:=(match pre.getLast? with | none=>true | some e=>!decide (d.1 <= e.1)) && cR d && d.2.2.all fun i=>decide (i ∈ ids pre)
def okL:List De->List De->Bool
 | _,[]=>true
 | pre,d :: r=>okD pre d && okL (pre ++ [d]) r
structure Few (N:Nat) (l:List De):Prop where
 len:l.length < N
 big:l.length <= 4611686018427387904
 rd:∀ d ∈ l,d.2.1.length < N/\d.2.1.length <= 4611686018427387904
 of:∀ d ∈ l,d.2.2.length < N/\d.2.2.length <= 4611686018427387904
theorem aK2 {l:List De} {d:De} (hs:Srt l) (h:∀ e,l.getLast?=some e->e.1 < d.1):Srt (l ++ [d]):=by
 show (ids (l ++ [d])).Pairwise _
 rw [ids,List.map_append,List.pairwise_append]
 refine ⟨hs,by simp,fun a ha b hb=>?_⟩
 rw [List.map_singleton,List.mem_singleton] at hb
 subst hb
 obtain ⟨x,hx,rfl⟩:=List.mem_map.1 ha
 rcases List.eq_nil_or_concat l with rfl | ⟨l',e,rfl⟩
 ·cases hx
 ·rw [List.concat_eq_append] at *
  have he:=h e (by simp)
  rcases List.mem_append.1 hx with hx | hx
  ·have:(ids (l' ++ [e])).Pairwise (· < ·):=hs
   rw [ids,List.map_append,List.pairwise_append] at this
   exact Int.lt_trans (this.2.2 x.1 (List.mem_map.2 ⟨x,hx,rfl⟩) e.1 (by simp)) he
  ·rw [List.mem_singleton.1 hx];exact he
theorem aEy {N:Nat} {l:List De} (hf:Few N l):∀ (m k:Nat),k <= l.length->l.length - k < m->Srt (l.take k) ->
  jM N m l l ((l.length:Nat):Int) (k:Int)=some (if okL (l.take k) (l.drop k)=true then 0 else 1)
 | 0,_,_,h,_=>absurd h (Nat.not_lt_zero _)
 | m + 1,k,h1,h,hs=>by
  show jT N (jM N m) l l _ _=_
  unfold jT
  have hbig:=hf.big
  have hlen:=hf.len
  by_cases hlt:k < l.length
  ·rw [fX hlt,aG,bM (bU hlt),List.drop_eq_getElem_cons hlt]
   have hm:=List.getElem_mem hlt
   have hd:=hf.rd _ hm
   have ho:=hf.of _ hm
   have htk:(l.take k).length=k:=by rw [List.length_take];omega
   have hr:bK N (l[k].1,(l[k].2.1,l[k].2.2))=some (cR l[k]):=aK8 (d:=l[k]) hd.2 ho.2 hd.1 ho.1
   have hk:bH N (List.take ((k:Int).toNat - 0) (List.drop 0 l)) l[k].2.2=some (l[k].2.2.all fun i=>decide (i ∈ ids (l.take k))):=by
    rw [show (k:Int).toNat - 0=k by omega,List.drop_zero]
    exact aLo hs (by omega) (by omega) ho.2 ho.1
   have rest:(bd? (bK N (l[k].1,(l[k].2.1,l[k].2.2))) fun v9=>if? (!v9) (some (l,l,((l.length:Nat):Int),(k:Int),true)) (gd? (0 <= (k:Int)) (gd? (0 <= (k:Int).toNat) (gd? ((k:Int).toNat <= l.length) (bd? (bH N (List.take ((k:Int).toNat - 0) (List.drop 0 l)) l[k].2.2) fun v10=>some (l,l,((l.length:Nat):Int),(k:Int),!v10)))))) =
     some (l,l,((l.length:Nat):Int),(k:Int),!(cR l[k] && l[k].2.2.all fun i=>decide (i ∈ ids (l.take k)))):=by
    rw [hr,hk]
    simp only [aL]
    cases cR l[k] with
    | false=>rfl
    | true=>rw [oG,aG,aO (by omega),aO (by omega),aO (by omega),Bool.true_and]
   have main:(if? (decide ((k:Int) > 0)) (ck .i64 ((k:Int) - 1) (aT l ((k:Int) - 1) fun x8=>if? (decide (l[k].1 <= x8.1)) (some (l,l,((l.length:Nat):Int),(k:Int),true)) (bd? (bK N (l[k].1,(l[k].2.1,l[k].2.2))) fun v9=>if? (!v9) (some (l,l,((l.length:Nat):Int),(k:Int),true)) (gd? (0 <= (k:Int)) (gd? (0 <= (k:Int).toNat) (gd? ((k:Int).toNat <= l.length) (bd? (bH N (List.take ((k:Int).toNat - 0) (List.drop 0 l)) l[k].2.2) fun v10=>some (l,l,((l.length:Nat):Int),(k:Int),!v10))))))))
      (bd? (bK N (l[k].1,(l[k].2.1,l[k].2.2))) fun v9=>if? (!v9) (some (l,l,((l.length:Nat):Int),(k:Int),true)) (gd? (0 <= (k:Int)) (gd? (0 <= (k:Int).toNat) (gd? ((k:Int).toNat <= l.length) (bd? (bH N (List.take ((k:Int).toNat - 0) (List.drop 0 l)) l[k].2.2) fun v10=>some (l,l,((l.length:Nat):Int),(k:Int),!v10))))))) =
     some (l,l,((l.length:Nat):Int),(k:Int),!okD (l.take k) l[k]):=by
    rw [rest]
    unfold okD
    by_cases hk0:k=0
    ·subst hk0;simp
    ·have e1:((k:Int) - 1).toNat=k - 1:=by omega
     have e2:(l.take k).getLast?=some l[k - 1]:=by
      rw [List.getLast?_eq_getElem?,htk,List.getElem?_take_of_lt (by omega),bU (by omega)]
     rw [decide_eq_true (show (k:Int) > 0 by omega),aG,bV (by omega) (by omega),tI (by omega) (by rw [e1];exact bU (by omega)),e2]
     dsimp only
     by_cases hc:l[k].1 <= l[k - 1].1
     ·rw [decide_eq_true hc];rfl
     ·rw [decide_eq_false hc];simp [Bool.and_assoc]
   rw [main]
   simp only [aL]
   rw [okL]
   cases hok:okD (l.take k) l[k] with
   | false=>rfl
   | true =>
    show if? (!true) _ _=_
    rw [oG,aG,bV (by omega) (by omega),show ((k:Int) + 1)=((k + 1:Nat):Int) by omega,Bool.true_and]
    have e3:l.take k ++ [l[k]]=l.take (k + 1):=by rw [List.take_succ_eq_append_getElem hlt]
    rw [e3]
    refine aEy hf m (k + 1) (by omega) (by omega) ?_
    rw [<- e3]
    refine aK2 hs fun e he=>?_
    unfold okD at hok
    rw [he] at hok
    simp only [Bool.and_eq_true,Bool.not_eq_true',decide_eq_false_iff_not] at hok
    omega
  ·rw [gI hlt,aC,List.drop_of_length_le (by omega)];rfl
def chk (l:List De):Int:=if l.length > 2000 then 2 else if okL [] l=true then 0 else 1
theorem qK {N:Nat} {l:List De} (hf:Few N l):bI N l=some (chk l):=by
 unfold bI chk
 by_cases h:l.length > 2000
 ·rw [if_pos h,decide_eq_true (show ((l.length:Nat):Int) > 2000 by omega)];rfl
 ·rw [if_neg h,decide_eq_false (show ¬ ((l.length:Nat):Int) > 2000 by omega),aC]
  have:=aEy hf N 0 (Nat.zero_le _) (by have:=hf.len;omega) (by simp [Srt])
  simpa using this
def tR (c:Ch) (x:Rd):Bool:=(x.1 == c.2.1) && ((bits .and .i64 (x.2.1 / (2 ^ c.1.toNat)) 1) == 1) && decide ((Max.max x.2.2.1 c.2.2.1) < (Min.min x.2.2.2 c.2.2.2))
def tch (d:De) (c:Ch):Bool:=!decide (c.1 < 0) && !decide (c.1 > 3) && d.2.1.any (tR c)
theorem aMb {N:Nat} {x:Rd} {c:Ch} (h0:0 <= c.1) (h3:c.1 <= 3):eO N x c.1 c.2.1 c.2.2.1 c.2.2.2=some (tR c x,c):=by
 have h64:((IntKind.bits .i64:Nat):Int)=64:=rfl
 unfold eO tR
 cases hg:x.1 == c.2.1 with
 | false=>rfl
 | true =>
  rw [aG,aO h0,aO (by rw [h64];omega)]
  cases hb:(bits .and .i64 (x.2.1 / (2 ^ c.1.toNat)) 1) == 1 with
  | false=>rfl
  | true=>rfl
theorem aH6 {N:Nat} {rs:List Rd} {c:Ch} (h0:0 <= c.1) (h3:c.1 <= 3) (hl:rs.length <= 4611686018427387904):∀ (m k:Nat),k <= rs.length->rs.length - k < m ->
  ∃ r:Int,bR N m rs ((rs.length:Nat):Int) (k:Int) c.1 c.2.1 c.2.2.1 c.2.2.2=some (r,c)/\decide (r ≥ 0)=(rs.drop k).any (tR c)
 | 0,_,_,h=>absurd h (Nat.not_lt_zero _)
 | m + 1,k,h1,h=>by
  show ∃ r:Int,cW N (bR N m) rs _ _ _ _ _ _=_/\_
  unfold cW
  by_cases hlt:k < rs.length
  ·rw [fX hlt,aG,bM (bU hlt),List.drop_eq_getElem_cons hlt,List.any_cons,aMb (x:=rs[k]) h0 h3]
   simp only [aL]
   cases hb:tR c rs[k] with
   | true=>exact ⟨k,rfl,by simp⟩
   | false =>
    obtain ⟨r,e1,e2⟩:=aH6 (N:=N) h0 h3 hl m (k + 1) (by omega) (by omega)
    exact ⟨r,by rw [aC,bV (by omega) (by omega),show ((k:Int) + 1)=((k + 1:Nat):Int) by omega];exact e1,by rw [e2];rfl⟩
  ·exact ⟨-1,by rw [gI hlt,aC],by rw [List.drop_of_length_le (by omega)];rfl⟩
theorem aF2 {N:Nat} {d:De} {c:Ch} (hl:d.2.1.length <= 4611686018427387904) (hN:d.2.1.length < N):cL N d c=some (tch d c):=by
 unfold cL tch
 by_cases h0:c.1 < 0
 ·rw [decide_eq_true h0];rfl
 ·rw [decide_eq_false h0,aC]
  simp only [aL]
  by_cases h3:c.1 > 3
  ·rw [decide_eq_true h3];rfl
  ·rw [decide_eq_false h3,aC]
   obtain ⟨r,e1,e2⟩:=aH6 (N:=N) (c:=c) (by omega) (by omega) hl N 0 (Nat.zero_le _) (by omega)
   unfold cQ dJ
   have e1:bR N N d.2.1 ((d.2.1.length:Nat):Int) 0 c.1 c.2.1 c.2.2.1 c.2.2.2=some (r,c):=e1
   rw [e1]
   show some (decide (r ≥ 0))=_
   rw [e2];rfl
theorem aH8 {N:Nat} {d:De} {cs:List Ch} (hd:d.2.1.length <= 4611686018427387904) (hN:d.2.1.length < N) (hl:cs.length <= 4611686018427387904):∀ (m k:Nat),k <= cs.length->cs.length - k < m ->
  ∃ r:Int,bF N m cs ((cs.length:Nat):Int) (k:Int) d.1 d.2.1 d.2.2=some (r,d)/\decide (r ≥ 0)=(cs.drop k).any (tch d)
 | 0,_,_,h=>absurd h (Nat.not_lt_zero _)
 | m + 1,k,h1,h=>by
  show ∃ r:Int,cD N (bF N m) cs _ _ _ _ _=_/\_
  unfold cD
  by_cases hlt:k < cs.length
  ·have ht:dR N (cs[k].1,(cs[k].2.1,(cs[k].2.2.1,cs[k].2.2.2))) d.1 d.2.1 d.2.2=some (tch d cs[k],d):=by
    unfold dR
    have:=aF2 (N:=N) (d:=d) (c:=cs[k]) hd hN
    have this:cL N (d.1,(d.2.1,d.2.2)) (cs[k].1,(cs[k].2.1,(cs[k].2.2.1,cs[k].2.2.2)))=some (tch d cs[k]):=this
    rw [this];rfl
   rw [fX hlt,aG,bM (bU hlt),List.drop_eq_getElem_cons hlt,List.any_cons,ht]
   simp only [aL]
   cases hb:tch d cs[k] with
   | true=>exact ⟨k,rfl,by simp⟩
   | false =>
    obtain ⟨r,e1,e2⟩:=aH8 (N:=N) hd hN hl m (k + 1) (by omega) (by omega)
    exact ⟨r,by rw [aC,bV (by omega) (by omega),show ((k:Int) + 1)=((k + 1:Nat):Int) by omega];exact e1,by rw [e2];rfl⟩
  ·exact ⟨-1,by rw [gI hlt,aC],by rw [List.drop_of_length_le (by omega)];rfl⟩
theorem bEj {N:Nat} {d:De} {cs:List Ch} (hd:d.2.1.length <= 4611686018427387904) (hN:d.2.1.length < N) (hl:cs.length <= 4611686018427387904) (hN2:cs.length < N):aQ N cs d.1 d.2.1 d.2.2=some (cs.any (tch d),d):=by
 unfold aQ cK
 obtain ⟨r,e1,e2⟩:=aH8 (N:=N) (d:=d) hd hN hl N 0 (Nat.zero_le _) (by omega)
 have e1:bF N N cs ((cs.length:Nat):Int) 0 d.1 d.2.1 d.2.2=some (r,d):=e1
 rw [e1]
 show some (decide (r ≥ 0),d)=_
 rw [e2];rfl
abbrev MB:=List (Int × Bool)
def has (mp:MB) (x:Int):Bool:=(bL mp x).getD false
def aG0 (cs:List Ch) (l:List De):List Int:=(l.filter fun d=>cs.any (tch d)).map (·.1)
def clo:List De->MB->List Int
 | [],_=>[]
 | d :: r,mp=>if (has mp d.1 || d.2.2.any (has mp))=true then d.1 :: clo r (bY mp d.1 true) else clo r mp
theorem aIn {N:Nat} {is:List Int} {mp:MB} (hl:is.length <= 4611686018427387904):∀ (m k:Nat),k <= is.length->is.length - k < m ->
  ∃ r:Int,bJ N m is ((is.length:Nat):Int) (k:Int) mp=some (r,mp)/\decide (r ≥ 0)=(is.drop k).any (has mp)
 | 0,_,_,h=>absurd h (Nat.not_lt_zero _)
 | m + 1,k,h1,h=>by
  show ∃ r:Int,dI N (bJ N m) is _ _ _=_/\_
  unfold dI
  by_cases hlt:k < is.length
  ·rw [fX hlt,aG,bM (bU hlt),List.drop_eq_getElem_cons hlt,List.any_cons]
   show ∃ r:Int,if? (has mp is[k]) (some ((k:Int),mp)) (ck .i64 ((k:Int) + 1) (bJ N m is ((is.length:Nat):Int) ((k:Int) + 1) mp))=some (r,mp)/\_
   cases hb:has mp is[k] with
   | true=>exact ⟨k,rfl,by simp⟩
   | false =>
    obtain ⟨r,e1,e2⟩:=aIn (N:=N) (mp:=mp) hl m (k + 1) (by omega) (by omega)
    exact ⟨r,by rw [aC,bV (by omega) (by omega),show ((k:Int) + 1)=((k + 1:Nat):Int) by omega];exact e1,by rw [e2];rfl⟩
  ·exact ⟨-1,by rw [gI hlt,aC],by rw [List.drop_of_length_le (by omega)];rfl⟩
theorem bEz {N:Nat} {is:List Int} {mp:MB} (hl:is.length <= 4611686018427387904) (hN:is.length < N):bZ N is mp=some (is.any (has mp),mp):=by
 unfold bZ dQ
 obtain ⟨r,e1,e2⟩:=aIn (N:=N) (mp:=mp) hl N 0 (Nat.zero_le _) (by omega)
 have e1:bJ N N is ((is.length:Nat):Int) 0 mp=some (r,mp):=e1
 rw [e1]
 show some (decide (r ≥ 0),mp)=_
 rw [e2];rfl
theorem aEj {N:Nat} {l:List De} (hf:Few N l) (hl:l.length <= 17592186044415):∀ (m k:Nat) (out:List Int) (mp:MB),k <= l.length->l.length - k < m->out.length <= k ->
  iK N m l ((l.length:Nat):Int) (k:Int) out mp=some (out ++ clo (l.drop k) mp)
 | 0,_,_,_,_,h,_=>absurd h (Nat.not_lt_zero _)
 | m + 1,k,out,mp,h1,h,h2=>by
  show iL N (iK N m) l _ _ _ _=_
  unfold iL
  by_cases hlt:k < l.length
  ·have hm:=List.getElem_mem hlt
   have ho:=hf.of _ hm
   rw [fX hlt,aG,bM (bU hlt),List.drop_eq_getElem_cons hlt,bEz ho.2 ho.1]
   have main:(if? (((bL mp l[k].1)).getD false) (gl? out.length out (some (l,((l.length:Nat):Int),(k:Int),true,out,l[k].1,l[k].2.1,l[k].2.2,mp))) (bd? (some (l[k].2.2.any (has mp),mp)) fun v10=>gl? out.length out (some (l,((l.length:Nat):Int),(k:Int),v10.1,out,l[k].1,l[k].2.1,l[k].2.2,v10.2)))) =
     some (l,((l.length:Nat):Int),(k:Int),(has mp l[k].1 || l[k].2.2.any (has mp)),out,l[k].1,l[k].2.1,l[k].2.2,mp):=by
    show if? (has mp l[k].1) _ _=_
    cases has mp l[k].1 with
    | true=>rw [aG,aR];rfl
    | false =>
     rw [aC]
     simp only [aL]
     rw [aR];rfl
   rw [main]
   simp only [aL]
   rw [clo]
   cases hb:(has mp l[k].1 || l[k].2.2.any (has mp)) with
   | true =>
    rw [aG,aR,aO (by simp;omega),aR]
    simp only [aL,if_true]
    rw [bV (by omega) (by omega),aR,show ((k:Int) + 1)=((k + 1:Nat):Int) by omega,aEj hf hl m (k + 1) (out ++ [l[k].1]) (bY mp l[k].1 true) (by omega) (by omega) (by simp;omega)]
    simp
   | false =>
    rw [aC,aR]
    simp only [aL,Bool.false_eq_true,if_false]
    rw [bV (by omega) (by omega),aR,show ((k:Int) + 1)=((k + 1:Nat):Int) by omega,aEj hf hl m (k + 1) out mp (by omega) (by omega) (by omega)]
  ·rw [gI hlt,aC,List.drop_of_length_le (by omega),aR]
   simp [clo]
theorem aF3 {N:Nat} {l:List De} (hf:Few N l) (hl:l.length <= 17592186044415) {mp:MB}:eA N l mp=some (clo l mp):=by
 unfold eA
 have:=aEj hf hl N 0 [] mp (Nat.zero_le _) (by have:=hf.len;omega) (Nat.le_refl _)
 simpa using this
def inM (mp:MB) (is:List Int):MB:=is.foldl (fun mp i=>bY mp i true) mp
theorem aFu {N:Nat} {l p:List De} {cs:List Ch} {a10:Int} (hf:Few N l) (hc:cs.length <= 4611686018427387904) (hN2:cs.length < N):∀ (m k:Nat) (mp:MB),k <= l.length->l.length - k < m ->
  eE N m l ((l.length:Nat):Int) (k:Int) p a10 cs [] mp=some (p,inM mp (aG0 cs (l.drop k)))
 | 0,_,_,_,h=>absurd h (Nat.not_lt_zero _)
 | m + 1,k,mp,h1,h=>by
  show gK N (eE N m) l _ _ _ _ cs _ _=_
  unfold gK
  have hbig:=hf.big
  by_cases hlt:k < l.length
  ·have hm:=List.getElem_mem hlt
   have hd:=hf.rd _ hm
   rw [fX hlt,aG,bM (bU hlt),List.drop_eq_getElem_cons hlt,bEj (d:=l[k]) hd.2 hd.1 hc hN2]
   simp only [aL]
   have e0:aG0 cs (l[k] :: l.drop (k + 1))=(if cs.any (tch l[k])=true then [l[k].1] else []) ++ aG0 cs (l.drop (k + 1)):=by
    unfold aG0
    rw [List.filter_cons]
    split <;> simp
   rw [e0]
   cases hb:cs.any (tch l[k]) with
   | true =>
    simp only [aG,aR,if_true,aL]
    simp only [oG,aG,aR]
    rw [bV (by omega) (by omega),show ((k:Int) + 1)=((k + 1:Nat):Int) by omega,aFu hf hc hN2 m (k + 1) (bY mp l[k].1 true) (by omega) (by omega)]
    rfl
   | false =>
    simp only [aC,aR,Bool.false_eq_true,if_false,aL]
    rw [bV (by omega) (by omega)]
    try dsimp only
    rw [show ((k:Int) + 1)=((k + 1:Nat):Int) by omega,aFu hf hc hN2 m (k + 1) mp (by omega) (by omega)]
    simp
  ·rw [gI hlt,aC,List.drop_of_length_le (by omega)];rfl
theorem aLl {N:Nat} {l:List De} {cs:List Ch} (hf:Few N l) (hl:l.length <= 17592186044415) (hc:cs.length <= 4611686018427387904) (hN2:cs.length < N):cX N l cs=some (if chk l=0 then (0,clo l (inM [] (aG0 cs l))) else (chk l,[])):=by
 unfold cX
 rw [qK hf]
 simp only [aL]
 by_cases h:chk l=0
 ·rw [h]
  simp only [bne_self_eq_false,aC,if_true]
  unfold gA
  simp only [aL]
  have:=aFu (N:=N) (p:=l) (a10:=0) hf hc hN2 N 0 [] (Nat.zero_le _) (by have:=hf.len;omega)
  have this:eE N N l ((l.length:Nat):Int) 0 l 0 cs [] []=some (l,inM [] (aG0 cs l)):=by simpa using this
  rw [this]
  simp only [aL]
  rw [aF3 hf hl]
  simp
 ·rw [if_neg h,show (chk l != 0)=true by simpa using h];rfl
theorem aI9:∀ {l l':List Int},l.Pairwise (· < ·)->l'.Pairwise (· < ·)->(∀ x,x ∈ l ↔ x ∈ l')->l=l'
 | [],[],_,_,_=>rfl
 | [],b :: r,_,_,h=>absurd ((h b).2 List.mem_cons_self) (by simp)
 | a :: r,[],_,_,h=>absurd ((h a).1 List.mem_cons_self) (by simp)
 | a :: r,b :: r',h1,h2,h=>by
  have ab:a=b:=by
   rcases List.mem_cons.1 ((h a).1 List.mem_cons_self) with e | e
   ·exact e
   ·rcases List.mem_cons.1 ((h b).2 List.mem_cons_self) with e' | e'
    ·exact e'.symm
    ·have:=List.rel_of_pairwise_cons h2 e
     have:=List.rel_of_pairwise_cons h1 e'
     omega
  subst ab
  congr 1
  refine aI9 h1.tail h2.tail fun x=>⟨fun hx=>?_,fun hx=>?_⟩
  ·have:=List.rel_of_pairwise_cons h1 hx
   rcases List.mem_cons.1 ((h x).1 (List.mem_cons_of_mem _ hx)) with e | e
   ·omega
   ·exact e
  ·have:=List.rel_of_pairwise_cons h2 hx
   rcases List.mem_cons.1 ((h x).2 (List.mem_cons_of_mem _ hx)) with e | e
   ·omega
   ·exact e
def aPo:List Int->Int->Nat
 | [],_=>0
 | a :: r,x=>if a < x then aPo r x + 1 else 0
theorem aHa:∀ {l:List Int},l.Pairwise (· < ·)->∀ p:Int,l.filter (fun x=>decide (p < x))=l.drop (aPo l p + if p ∈ l then 1 else 0)
 | [],_,p=>rfl
 | a :: r,hs,p=>by
  have ih:r.filter (fun x=>decide (p < x))=r.drop (aPo r p + if p ∈ r then 1 else 0):=aHa (l:=r) (List.Pairwise.of_cons hs) p
  have hr:∀ b ∈ r,a < b:=fun b hb=>List.rel_of_pairwise_cons hs hb
  rw [List.filter_cons]
  unfold aPo
  by_cases h1:a < p
  ·rw [if_neg (by simp;omega),if_pos h1,ih]
   have:(p ∈ a :: r) ↔ p ∈ r:=by
    rw [List.mem_cons]
    exact ⟨fun h=>h.resolve_left (by omega),.inr⟩
   simp only [this]
   rw [show aPo r p + 1 + (if p ∈ r then 1 else 0)=(aPo r p + if p ∈ r then 1 else 0) + 1 by omega,List.drop_succ_cons]
  ·rw [if_neg h1]
   by_cases h2:a=p
   ·subst h2
    rw [if_neg (by simp),if_pos List.mem_cons_self]
    show _=r
    rw [List.filter_eq_self]
    intro b hb
    exact decide_eq_true (hr b hb)
   ·have hp:p ∉ a :: r:=fun h=>by
     rcases List.mem_cons.1 h with e | e
     ·exact h2 e.symm
     ·have:=hr p e;omega
    rw [if_pos (by simp;omega),if_neg hp]
    show a :: _=a :: r
    congr 1
    rw [List.filter_eq_self]
    intro b hb
    have:=hr b hb
    exact decide_eq_true (by omega)
theorem aQ4:∀ {r pre:List De},Srt pre->okL pre r=true->Srt (pre ++ r)
 | [],pre,hs,_=>by rw [List.append_nil];exact hs
 | d :: r,pre,hs,h=>by
  rw [okL,Bool.and_eq_true] at h
  have:Srt (pre ++ [d]):=aK2 hs fun e he=>by
   have h1:=h.1
   unfold okD at h1
   rw [he] at h1
   simp only [Bool.and_eq_true,Bool.not_eq_true',decide_eq_false_iff_not] at h1
   omega
  have:=aQ4 this h.2
  rwa [List.append_assoc] at this
theorem aOx {l:List De} (h:chk l=0):okL [] l=true:=by
 unfold chk at h
 split at h
 ·cases h
 ·split at h
  ·assumption
  ·cases h
theorem dS {l:List De} (h:chk l=0):Srt l:=aQ4 (pre:=[]) List.Pairwise.nil (aOx h)
def aRl (l:List De) (T:List Int) (p:Int):Int × Int :=
 if chk l ≠ 0 then (0,chk l) else if asc T=false\/(T.all fun i=>decide (i ∈ ids l))=false then (0,1) else if p ≠ 0/\p ∉ T then (0,1) else
  match T.drop (aPo T p + if p ∈ T then 1 else 0) with
  | []=>(0,8)
  | x :: _=>(x,0)
theorem aUk {N:Nat} {l:List Int} (hl:l.length <= 17592186044415):cJ N l=some l:=by
 unfold cJ
 rw [aO (show l.length * 8 <= 140737488355328 by omega),aR]
 cases l with
 | nil=>simp
 | cons a r=>simp
theorem aNs {α β:Type} [DecidableEq α] (es:List (α × β)) (k:α) (v:β) (j:α):bL (bY es k v) j=if j=k then some v else bL es j:=by
 induction es with
 | nil=>simp only [bY,bL];split <;> simp_all [eq_comm]
 | cons e es ih =>
  unfold bY
  split
  ·rename_i h
   simp only [bL]
   split <;> rename_i h2
   ·rw [if_pos h2.symm]
   ·rw [if_neg (fun h3=>h2 h3.symm)]
    rw [if_neg (fun h3=>h2 (by rw [<- h,h3]))]
  ·rename_i h
   simp only [bL,ih]
   split <;> rename_i h2
   ·rw [if_neg (fun h3=>h (by rw [h2,h3]))]
   ·rfl
theorem nW (mv:MB) (k:Int) (b:Bool) (j:Int):has (bY mv k b) j=if j=k then b else has mv j:=by
 unfold has
 rw [aNs]
 split <;> rfl
theorem aHd:∀ {a pre b:List De} {d:De},okL pre (a ++ d :: b)=true->okD (pre ++ a) d=true
 | [],pre,b,d,h=>by
  rw [List.nil_append,okL,Bool.and_eq_true] at h
  rw [List.append_nil];exact h.1
 | x :: a,pre,b,d,h=>by
  rw [List.cons_append,okL,Bool.and_eq_true] at h
  have:=aHd (a:=a) h.2
  rwa [List.append_assoc] at this
theorem bDs {l:List De} (h:chk l=0) {k:Nat} (hk:k < l.length):okD (l.take k) l[k]=true:=by
 have:=aOx h
 have e:l=l.take k ++ l[k] :: l.drop (k + 1):=by rw [<- List.drop_eq_getElem_cons hk,List.take_append_drop]
 rw [e] at this
 have:=aHd (pre:=[]) this
 rwa [List.nil_append] at this
theorem aWr {l:List De} (h:chk l=0) {k:Nat} (hk:k < l.length):∀ o ∈ l[k].2.2,o ∈ ids (l.take k):=by
 have:=bDs h hk
 unfold okD at this
 rw [Bool.and_eq_true] at this
 intro o ho
 exact of_decide_eq_true (List.all_eq_true.1 this.2 o ho)
theorem aJd {l:List De} (hs:Srt l) {i j:Nat} (hj:j < l.length) (h:i < j):(l[i]'(by omega)).1 < l[j].1:=by
 have:=List.pairwise_iff_getElem.1 hs i j (by rw [List.length_map];omega) (by rw [List.length_map];omega) h
 simpa using this
def sel (q:De->Bool) (l:List De):List Int:=ids (l.filter q)
theorem bAb {q:De->Bool} {l:List De} (hs:Srt l):(sel q l).Pairwise (· < ·):=List.Pairwise.sublist (List.Sublist.map _ List.filter_sublist) hs
theorem bAr {q:De->Bool} {l:List De} {x:Int}:x ∈ sel q l ↔ ∃ d ∈ l,q d=true/\d.1=x:=by
 unfold sel
 rw [List.mem_map]
 constructor
 ·rintro ⟨d,hd,rfl⟩
  obtain ⟨h1,h2⟩:=List.mem_filter.1 hd
  exact ⟨d,h1,h2,rfl⟩
 ·rintro ⟨d,h1,h2,rfl⟩
  exact ⟨d,List.mem_filter.2 ⟨h1,h2⟩,rfl⟩
theorem bBg {q:De->Bool} {l:List De} {x:Int} (h:x ∈ sel q l):x ∈ ids l:=by
 obtain ⟨d,h1,_,rfl⟩:=bAr.1 h
 exact List.mem_map.2 ⟨d,h1,rfl⟩
theorem bA5 {l:List De} (hc:chk l=0) {T:List Int} (hs:T.Pairwise (· < ·)) (hsub:∀ x ∈ T,x ∈ ids l) {p:Int} (hp:p=0\/p ∈ T):aRl l T p=(match T.filter fun x=>decide (p < x) with
  | []=>(0,8)
  | x :: _=>(x,0)):=by
 have n1:¬ (asc T=false\/(T.all fun i=>decide (i ∈ ids l))=false):=fun h=>by
  rcases h with h | h
  ·rw [aDn.2 hs] at h;cases h
  ·rw [List.all_eq_true.2 (fun x hx=>decide_eq_true (hsub x hx))] at h;cases h
 have n2:¬ (p ≠ 0/\p ∉ T):=fun h=>by
  rcases hp with h0 | h0
  ·exact h.1 h0
  ·exact h.2 h0
 unfold aRl
 rw [if_neg (fun h=>h hc),if_neg n1,if_neg n2,aHa hs]
 try rfl
def due (cs:List Ch) (mv:MB) (d:De):Bool:=cs.any (tch d) || d.2.2.any (has mv)
structure WInv (l:List De) (cs:List Ch) (k:Nat) (T:List Int) (p:Int) (mv:MB):Prop where
 tt:T=sel (due cs mv) l
 pp:p=0\/p ∈ T
 ff:T.filter (fun x=>decide (p < x))=sel (due cs mv) (l.drop k)
 mm:∀ x,has mv x=true->x ∈ ids (l.take k)
theorem WInv.next {l:List De} {cs:List Ch} {k:Nat} {T:List Int} {p:Int} {mv:MB} (h:WInv l cs k T p mv) (hc:chk l=0):aRl l T p=(match sel (due cs mv) (l.drop k) with
  | []=>(0,8)
  | x :: _=>(x,0)):=by
 have hs:=dS hc
 rw [bA5 hc (by rw [h.tt];exact bAb hs) (fun x hx=>by rw [h.tt] at hx;exact bBg hx) h.pp,h.ff]
theorem aMl {q:De->Bool} {d:De} {l:List De}:sel q (d :: l)=if q d=true then d.1 :: sel q l else sel q l:=by
 unfold sel
 rw [List.filter_cons]
 split <;> rfl
theorem WInv.skip {l:List De} {cs:List Ch} {k:Nat} {T:List Int} {p:Int} {mv:MB} (h:WInv l cs k T p mv) (hk:k < l.length) (hd:due cs mv l[k]=false):WInv l cs (k + 1) T p mv:=by
 refine ⟨h.tt,h.pp,?_,fun x hx=>?_⟩
 ·rw [h.ff,List.drop_eq_getElem_cons hk,aMl,if_neg (by rw [hd];exact Bool.false_ne_true)]
 ·have:=h.mm x hx
  rw [List.take_succ_eq_append_getElem hk,ids,List.map_append]
  exact List.mem_append_left _ this
theorem aBp:∀ (is:List Int) (mp:MB) (x:Int),has (inM mp is) x=(has mp x || decide (x ∈ is))
 | [],mp,x=>by simp [inM]
 | a :: is,mp,x=>by
  show has (inM (bY mp a true) is) x=_
  rw [aBp is,nW]
  by_cases h:x=a
  ·rw [if_pos h];simp [h]
  ·rw [if_neg h];simp [h]
def aYv (cs:List Ch):List De->MB->List Int
 | [],_=>[]
 | d :: r,mv=>if due cs mv d=true then d.1 :: aYv cs r (bY mv d.1 true) else aYv cs r mv
theorem aM9 {l:List De} {x:Int} {k:Nat} (h:x ∈ ids (l.take k)):∃ j,∃ hj:j < l.length,j < k/\l[j].1=x:=by
 obtain ⟨d,hd,rfl⟩:=List.mem_map.1 h
 obtain ⟨j,hj,rfl⟩:=List.getElem_of_mem hd
 rw [List.length_take] at hj
 exact ⟨j,by omega,by omega,by rw [List.getElem_take]⟩
structure FInv (l:List De) (cs:List Ch) (A:List Int) (i k:Nat) (T:List Int) (p:Int) (mv:MB):Prop where
 w:WInv l cs k T p mv
 hk:k <= l.length
 dr:A.drop i=aYv cs (l.drop k) mv
 ta:A.take i=sel (due cs mv) (l.take k)
theorem aZy {q:De->Bool} {a b:List De}:sel q (a ++ b)=sel q a ++ sel q b:=by
 unfold sel ids
 rw [List.filter_append,List.map_append]
theorem FInv.skip {l:List De} {cs:List Ch} {A:List Int} {i k:Nat} {T:List Int} {p:Int} {mv:MB} (h:FInv l cs A i k T p mv) (hk:k < l.length) (hd:due cs mv l[k]=false):FInv l cs A i (k + 1) T p mv:=by
 refine ⟨h.w.skip hk hd,hk,?_,?_⟩
 ·rw [h.dr,List.drop_eq_getElem_cons hk,aYv,if_neg (by rw [hd];exact Bool.false_ne_true)]
 ·rw [h.ta,List.take_succ_eq_append_getElem hk,aZy,aMl,if_neg (by rw [hd];exact Bool.false_ne_true)]
  simp [sel]
theorem FInv.go {l:List De} {cs:List Ch} {A:List Int} {i:Nat} {T:List Int} {p:Int} {mv:MB}:∀ (n k:Nat),l.length - k=n->FInv l cs A i k T p mv->∃ k',FInv l cs A i k' T p mv/\(k'=l.length\/∃ hk:k' < l.length,due cs mv l[k']=true)
 | 0,k,hn,h=>⟨k,h,.inl (by have:=h.hk;omega)⟩
 | n + 1,k,hn,h=>by
  have hk:k < l.length:=by omega
  cases hd:due cs mv l[k] with
  | true=>exact ⟨k,h,.inr ⟨hk,hd⟩⟩
  | false=>exact FInv.go n (k + 1) (by omega) (h.skip hk hd)
theorem FInv.end {l:List De} {cs:List Ch} {A:List Int} {T:List Int} {p:Int} {mv:MB} {k:Nat} (hc:chk l=0) (h:FInv l cs A A.length k T p mv):aRl l T p=(0,8)/\T=A:=by
 obtain ⟨k',h,hk⟩:=FInv.go _ k rfl h
 have hdr:=h.dr
 rw [List.drop_of_length_le (Nat.le_refl _)] at hdr
 rcases hk with rfl | ⟨hk,hd⟩
 ·refine ⟨?_,?_⟩
  ·rw [h.w.next hc,List.drop_of_length_le (Nat.le_refl _)];rfl
  ·have:=h.ta
   rw [List.take_length,List.take_length] at this
   rw [this];exact h.w.tt
 ·rw [List.drop_eq_getElem_cons hk,aYv,if_pos hd] at hdr
  cases hdr
def eJ (d:De):Prop:=d.2.2.length <= 20/\d.2.1.length <= 42
theorem aLq {l:List De} (hl:l.length <= 4611686018427387904):∀ (m k:Nat),k <= l.length->l.length - k < m->∃ b,qE m l (k:Int)=some b/\(b=true->∀ d ∈ l.drop k,eJ d)
 | 0,_,_,h=>absurd h (Nat.not_lt_zero _)
 | m + 1,k,h1,h=>by
  show ∃ b,qC (qE m) l _=some b/\_
  unfold qC
  by_cases hlt:k < l.length
  ·have hd:∃ f:Bool,(aT l (k:Int) fun x7=>if? (decide (((x7.2.2.length:Nat):Int) > 20)) (some (l,(k:Int),true)) (aT l (k:Int) fun x8=>if? (decide (((x8.2.1.length:Nat):Int) > 8)) (aT l (k:Int) fun x9=>if? (decide (((x9.2.1.length:Nat):Int) <= 40)) (some (l,(k:Int),true)) (aT l (k:Int) fun x10=>some (l,(k:Int),decide (((x10.2.1.length:Nat):Int) > 42)))) (aT l (k:Int) fun x11=>some (l,(k:Int),decide (((x11.2.1.length:Nat):Int) > 42)))))=some (l,(k:Int),f)/\(f=false->eJ l[k]):=by
    simp only [bM (bU hlt)]
    by_cases c1:((l[k].2.2.length:Nat):Int) > 20
    ·exact ⟨true,by rw [decide_eq_true c1];rfl,fun e=>by cases e⟩
    ·rw [decide_eq_false c1,aC]
     by_cases c2:((l[k].2.1.length:Nat):Int) > 8
     ·rw [decide_eq_true c2,aG]
      by_cases c3:((l[k].2.1.length:Nat):Int) <= 40
      ·exact ⟨true,by rw [decide_eq_true c3];rfl,fun e=>by cases e⟩
      ·rw [decide_eq_false c3,aC]
       exact ⟨_,rfl,fun e=>⟨by omega,by have:=of_decide_eq_false e;omega⟩⟩
     ·rw [decide_eq_false c2,aC]
      exact ⟨_,rfl,fun e=>⟨by omega,by have:=of_decide_eq_false e;omega⟩⟩
   obtain ⟨f,e1,e2⟩:=hd
   rw [fX hlt,aG,e1]
   simp only [aL]
   cases f with
   | true=>exact ⟨false,rfl,fun e=>by cases e⟩
   | false =>
    obtain ⟨b,i1,i2⟩:=aLq hl m (k + 1) (by omega) (by omega)
    refine ⟨b,by rw [aC,bV (by omega) (by omega),show ((k:Int) + 1)=((k + 1:Nat):Int) by omega];exact i1,fun hb d hd=>?_⟩
    rw [List.drop_eq_getElem_cons hlt] at hd
    rcases List.mem_cons.1 hd with rfl | hd
    ·exact e2 rfl
    ·exact i2 hb d hd
  ·exact ⟨true,by rw [gI hlt,aC],fun _ d hd=>by rw [List.drop_of_length_le (by omega)] at hd;cases hd⟩
theorem aY4 {N:Nat} (hN:2010 < N) (l:List De) (most:Int):∃ b,fA N l most=some b/\(b=true->∀ d ∈ l,eJ d):=by
 unfold fA
 have hs:∃ f:Bool,(if? (decide (((l.length:Nat):Int) > most)) (if? (decide (((l.length:Nat):Int) <= 2000)) (some (l,true)) (some (l,decide (((l.length:Nat):Int) > 2010)))) (some (l,decide (((l.length:Nat):Int) > 2010))))=some (l,f)/\(f=false->l.length <= 2010):=by
  by_cases c1:((l.length:Nat):Int) > most
  ·rw [decide_eq_true c1,aG]
   by_cases c2:((l.length:Nat):Int) <= 2000
   ·exact ⟨true,by rw [decide_eq_true c2];rfl,fun e=>by cases e⟩
   ·rw [decide_eq_false c2,aC]
    exact ⟨_,rfl,fun e=>by have:=of_decide_eq_false e;omega⟩
  ·rw [decide_eq_false c1,aC]
   exact ⟨_,rfl,fun e=>by have:=of_decide_eq_false e;omega⟩
 obtain ⟨f,e1,e2⟩:=hs
 rw [e1]
 simp only [aL]
 cases f with
 | true=>exact ⟨false,rfl,fun e=>by cases e⟩
 | false =>
  have:=e2 rfl
  obtain ⟨b,i1,i2⟩:=aLq (l:=l) (by omega) N 0 (Nat.zero_le _) (by omega)
  exact ⟨b,by rw [aC];exact i1,fun hb d hd=>i2 hb d (by rw [List.drop_zero];exact hd)⟩
theorem bDl {N:Nat} (hN:2010 < N) {l:List De} (hl:l.length <= 2010) (h:∀ d ∈ l,eJ d):Few N l :=
 ⟨by omega,by omega,fun d hd=>by have:=h d hd;unfold eJ at this;omega,fun d hd=>by have:=h d hd;unfold eJ at this;omega⟩
theorem aGa {a:List Int} (hl:a.length <= 4611686018427387904):∀ (m k:Nat),k <= a.length->a.length - k < m->eK m a a ((a.length:Nat):Int) (k:Int)=some true
 | 0,_,_,h=>absurd h (Nat.not_lt_zero _)
 | m + 1,k,h1,h=>by
  show eF (eK m) a a _ _=_
  unfold eF
  by_cases hlt:k < a.length
  ·rw [fX hlt,aG,bM (bU hlt),bM (bU hlt),show (a[k] != a[k])=false by simp,aC,bV (by omega) (by omega),show ((k:Int) + 1)=((k + 1:Nat):Int) by omega]
   exact aGa hl m (k + 1) (by omega) (by omega)
  ·rw [gI hlt,aC]
theorem aF5 {N:Nat} {a:List Int} (hl:a.length <= 4611686018427387904) (hN:a.length < N):aP N a a=some true:=by
 unfold aP
 rw [show (((a.length:Nat):Int) != ((a.length:Nat):Int))=false by simp,aC]
 exact aGa hl N 0 (Nat.zero_le _) (by omega)
abbrev Tk:=Int × Int
def cov (l:List Tk) (x:Int):Prop:=∃ t ∈ l,t.1 <= x/\x < t.2
def mg:List Tk->Tk->List Tk->List Tk
 | pre,z,[]=>pre ++ [z]
 | pre,z,t :: r=>if t.1 <= z.2 then mg pre (z.1,max z.2 t.2) r else mg (pre ++ [z]) t r
def mg0:List Tk->List Tk
 | []=>[]
 | t :: r=>mg [] t r
theorem aJh:∀ {r:List Tk} {pre:List Tk} {z:Tk},(pre ++ [z]).Pairwise (fun a b=>a.2 < b.1)->(∀ t ∈ pre ++ [z],t.1 < t.2)->(z :: r).Pairwise (fun a b=>a.1 <= b.1)->(∀ t ∈ r,t.1 < t.2) ->
  (mg pre z r).Pairwise (fun a b=>a.2 < b.1)/\(∀ t ∈ mg pre z r,t.1 < t.2)/\∀ x,cov (mg pre z r) x ↔ cov (pre ++ [z]) x\/cov r x
 | [],pre,z,h1,h2,_,_=>⟨h1,h2,fun x=>by simp [mg,cov]⟩
 | t :: r,pre,z,h1,h2,h3,h4=>by
  have ht:=h4 t List.mem_cons_self
  have hz:=h2 z (by simp)
  have hzt:z.1 <= t.1:=List.rel_of_pairwise_cons h3 List.mem_cons_self
  have h3':(t :: r).Pairwise (fun a b=>a.1 <= b.1):=List.Pairwise.of_cons h3
  have h5:∀ u ∈ r,u.1 < u.2:=fun u hu=>h4 u (List.mem_cons_of_mem _ hu)
  rw [List.pairwise_append] at h1
  unfold mg
  by_cases hc:t.1 <= z.2
  ·rw [if_pos hc]
   have hmx:z.2 <= max z.2 t.2/\t.2 <= max z.2 t.2/\(max z.2 t.2=z.2\/max z.2 t.2=t.2):=by omega
   obtain ⟨m1,m2,m3⟩:=hmx
   generalize max z.2 t.2=e at *
   obtain ⟨i1,i2,i3⟩:=aJh (r:=r) (pre:=pre) (z:=(z.1,e)) (List.pairwise_append.2 ⟨h1.1,by simp,fun a ha b hb=>by rw [List.mem_singleton.1 hb];exact h1.2.2 a ha z (by simp)⟩)
    (fun u hu=>by
     rcases List.mem_append.1 hu with hu | hu
     ·exact h2 u (List.mem_append_left _ hu)
     ·rw [List.mem_singleton.1 hu];show z.1 < e;omega)
    (List.pairwise_cons.2 ⟨fun u hu=>by have:=List.rel_of_pairwise_cons h3' hu;show z.1 <= u.1;omega,List.Pairwise.of_cons h3'⟩) h5
   refine ⟨i1,i2,fun x=>?_⟩
   rw [i3 x]
   have key:cov (pre ++ [(z.1,e)]) x ↔ cov (pre ++ [z]) x\/(t.1 <= x/\x < t.2):=by
    constructor
    ·rintro ⟨u,hu,q⟩
     rcases List.mem_append.1 hu with hu | hu
     ·exact .inl ⟨u,List.mem_append_left _ hu,q⟩
     ·rw [List.mem_singleton.1 hu] at q
      have q:z.1 <= x/\x < e:=q
      by_cases hx:x < z.2
      ·exact .inl ⟨z,by simp,q.1,hx⟩
      ·exact .inr ⟨by omega,by omega⟩
    ·rintro (⟨u,hu,q⟩ | q)
     ·rcases List.mem_append.1 hu with hu | hu
      ·exact ⟨u,List.mem_append_left _ hu,q⟩
      ·rw [List.mem_singleton.1 hu] at q
       exact ⟨(z.1,e),by simp,q.1,by show x < e;omega⟩
     ·exact ⟨(z.1,e),by simp,by show z.1 <= x;omega,by show x < e;omega⟩
   rw [key]
   constructor
   ·rintro ((h | h) | h)
    ·exact .inl h
    ·exact .inr ⟨t,List.mem_cons_self,h⟩
    ·obtain ⟨u,hu,q⟩:=h
     exact .inr ⟨u,List.mem_cons_of_mem _ hu,q⟩
   ·rintro (h | ⟨u,hu,q⟩)
    ·exact .inl (.inl h)
    ·rcases List.mem_cons.1 hu with rfl | hu
     ·exact .inl (.inr q)
     ·exact .inr ⟨u,hu,q⟩
  ·rw [if_neg hc]
   obtain ⟨i1,i2,i3⟩:=aJh (r:=r) (pre:=pre ++ [z]) (z:=t) (List.pairwise_append.2 ⟨List.pairwise_append.2 h1,by simp,fun a ha b hb=>by
     rw [List.mem_singleton.1 hb]
     rcases List.mem_append.1 ha with ha | ha
     ·have:=h1.2.2 a ha z (by simp);omega
     ·rw [List.mem_singleton.1 ha];omega⟩)
    (fun u hu=>by
     rcases List.mem_append.1 hu with hu | hu
     ·exact h2 u hu
     ·rw [List.mem_singleton.1 hu];exact ht) h3' h5
   refine ⟨i1,i2,fun x=>?_⟩
   rw [i3 x]
   constructor
   ·rintro (⟨u,hu,q⟩ | ⟨u,hu,q⟩)
    ·rcases List.mem_append.1 hu with hu | hu
     ·exact .inl ⟨u,hu,q⟩
     ·rw [List.mem_singleton.1 hu] at q
      exact .inr ⟨t,List.mem_cons_self,q⟩
    ·exact .inr ⟨u,List.mem_cons_of_mem _ hu,q⟩
   ·rintro (⟨u,hu,q⟩ | ⟨u,hu,q⟩)
    ·exact .inl ⟨u,List.mem_append_left _ hu,q⟩
    ·rcases List.mem_cons.1 hu with rfl | hu
     ·exact .inl ⟨_,by simp,q⟩
     ·exact .inr ⟨u,hu,q⟩
theorem aWz {l:List Tk} (h1:l.Pairwise (fun a b=>a.1 <= b.1)) (h2:∀ t ∈ l,t.1 < t.2):(mg0 l).Pairwise (fun a b=>a.2 < b.1)/\(∀ t ∈ mg0 l,t.1 < t.2)/\∀ x,cov (mg0 l) x ↔ cov l x:=by
 cases l with
 | nil=>exact ⟨List.Pairwise.nil,(fun _ h=>by cases h),fun x=>Iff.rfl⟩
 | cons t r =>
  obtain ⟨i1,i2,i3⟩:=aJh (pre:=[]) (z:=t) (r:=r) (by simp) (fun u hu=>by rw [List.nil_append,List.mem_singleton] at hu;rw [hu];exact h2 t List.mem_cons_self) h1 (fun u hu=>h2 u (List.mem_cons_of_mem _ hu))
  refine ⟨i1,i2,fun x=>?_⟩
  show cov (mg [] t r) x ↔ _
  rw [i3]
  constructor
  ·rintro (⟨u,hu,q⟩ | ⟨u,hu,q⟩)
   ·rw [List.nil_append,List.mem_singleton] at hu
    exact ⟨t,List.mem_cons_self,hu ▸ q⟩
   ·exact ⟨u,List.mem_cons_of_mem _ hu,q⟩
  ·rintro ⟨u,hu,q⟩
   rcases List.mem_cons.1 hu with rfl | hu
   ·exact .inl ⟨_,by simp,q⟩
   ·exact .inr ⟨u,hu,q⟩
theorem aBh {v:List Tk} (hl:v.length <= 4000000000000):∀ (m k:Nat) (pre:List Tk) (z:Tk),k <= v.length->v.length - k < m->pre.length + 1 <= k ->
  gX m ((v.length:Nat):Int) (k:Int) v (pre ++ [z])=some (v,mg pre z (v.drop k))
 | 0,_,_,_,_,h,_=>absurd h (Nat.not_lt_zero _)
 | m + 1,k,pre,z,h1,h,h2=>by
  show eS (gX m) _ _ v (pre ++ [z])=_
  unfold eS
  by_cases hlt:k < v.length
  ·have hn:(pre ++ [z]).length=pre.length + 1:=by simp
   have hz:(pre ++ [z])[pre.length]?=some z:=by simp
   have e1:(((pre ++ [z]).length:Nat):Int) - 1=(pre.length:Int):=by omega
   rw [fX hlt,aG,aO (by omega),aO (by omega),Int.toNat_natCast,wQ (bU hlt),decide_eq_true (show (((pre ++ [z]).length:Nat):Int) > 0 by omega),aG,bV (by omega) (by omega),e1,aO (by omega),aO (by omega),Int.toNat_natCast,wQ hz,aR,aR]
   simp only [aL]
   rw [List.drop_eq_getElem_cons hlt,mg,e1]
   by_cases c:v[k].1 <= z.2
   ·have hs:(pre ++ [z]).set pre.length (z.1,max z.2 v[k].2)=pre ++ [(z.1,max z.2 v[k].2)]:=by simp
    rw [decide_eq_true c,if_pos c,aG,bV (by omega) (by omega),bV (by omega) (by omega),aO (by omega),aO (by omega),Int.toNat_natCast,wQ hz,aO (by omega),aO (by omega),wQ hz,hs]
    rw [aW9 (by simp),aR]
    simp only [aL]
    rw [bV (by omega) (by omega),aR,aR,show ((k:Int) + 1)=((k + 1:Nat):Int) by omega]
    exact aBh hl m (k + 1) pre _ (by omega) (by omega) (by omega)
   ·rw [decide_eq_false c,if_neg c,aC,aR,aO (by simp only [List.length_append,List.length_cons,List.length_nil];omega),aR,aR]
    simp only [aL]
    rw [bV (by omega) (by omega),aR,aR,show ((k:Int) + 1)=((k + 1:Nat):Int) by omega]
    exact aBh hl m (k + 1) (pre ++ [z]) _ (by omega) (by omega) (by simp;omega)
  ·rw [gI hlt,aC,List.drop_of_length_le (by omega),aR];rfl
theorem aZi {N:Nat} {v:List Tk} (hl:v.length <= 4000000000000) (hN:v.length < N):kA N v=some (eY (0,0) (ltOf cfT) v,mg0 (eY (0,0) (ltOf cfT) v)):=by
 unfold kA
 rw [aR,show cZ N v=some (eY (0,0) (ltOf cfT) v) from if_pos (by omega)]
 have hlen:=vI (z:=((0,0):Tk)) aXb v
 generalize eY (0,0) (ltOf cfT) v=s at *
 simp only [aL]
 rw [aW9 hlen.symm,<- hlen]
 cases s with
 | nil =>
  obtain ⟨m,rfl⟩:∃ m,N=m + 1:=⟨N - 1,by omega⟩
  rfl
 | cons t r =>
  obtain ⟨m,rfl⟩:∃ m,N=m + 1:=⟨N - 1,by omega⟩
  show eS (gX m) _ _ (t :: r) []=_
  have hlt:0 < (t :: r).length:=by simp
  have:=aBh (v:=t :: r) (by omega) m 1 [] t (by omega) (by omega) (by simp)
  unfold eS
  rw [show (0:Int)=((0:Nat):Int) from rfl,fX hlt,aG,aO (by omega),aO (by omega),Int.toNat_natCast,wQ (bU hlt)]
  rw [decide_eq_false (show ¬ (((([]:List Tk).length:Nat):Int) > ((0:Nat):Int)) by simp),aC,aR,aR]
  simp only [aL,aC]
  rw [aR,aO (by simp),aR,aR]
  simp only [aL]
  rw [bV (by omega) (by omega),aR,aR]
  exact this
abbrev MP:=List (Arr 2 × List Tk)
def kyr (x:Rd) (j:Nat):Arr 2:=Arr.from [x.1,1 * 2 ^ j] 2
theorem bCt (x:Rd) (j:Nat):(kyr x j).l=[x.1,1 * 2 ^ j]:=Arr.l_from (by simp)
def aEt (x:Rd) (j:Nat):Bool:=decide ((bits .and .i64 x.2.1 (1 * 2 ^ j)) > 0)
def qM (mp:MP) (x:Rd) (j:Nat):MP:=if aEt x j=true then bY mp (kyr x j) ((bL mp (kyr x j)).getD [] ++ [(x.2.2.1,x.2.2.2)]) else mp
def wZ (mp:MP) (x:Rd):MP:=qM (qM (qM (qM mp x 0) x 1) x 2) x 3
structure Wd (mp:MP) (B:Nat):Prop where
 len:mp.length <= B
 row:∀ e ∈ mp,e.2.length <= B
theorem Wd.mono {mp:MP} {B C:Nat} (h:Wd mp B) (hc:B <= C):Wd mp C:=⟨Nat.le_trans h.len hc,fun e he=>Nat.le_trans (h.row e he) hc⟩
theorem aAp {α β:Type} [DecidableEq α]:∀ {es:List (α × β)} {k:α} {v:β},bL es k=some v->(k,v) ∈ es
 | [],_,_,h=>by cases h
 | e :: es,k,v,h=>by
  unfold bL at h
  split at h
  ·rename_i he
   cases h
   rw [<- he];exact List.mem_cons_self
  ·exact List.mem_cons_of_mem _ (aAp h)
theorem aJ2 {α β:Type} [DecidableEq α]:∀ {es:List (α × β)} {k:α} {v:β},(es.map (·.1)).Nodup->(k,v) ∈ es->bL es k=some v
 | [],_,_,_,h=>by cases h
 | e :: es,k,v,hn,h=>by
  have hn:(e.1 :: es.map (·.1)).Nodup:=hn
  rw [List.nodup_cons] at hn
  unfold bL
  rcases List.mem_cons.1 h with rfl | h
  ·rw [if_pos rfl]
  ·rw [if_neg (fun he=>hn.1 (by rw [he];exact List.mem_map.2 ⟨_,h,rfl⟩)),aJ2 hn.2 h]
theorem aEq {α β:Type} [DecidableEq α]:∀ {es:List (α × β)} {k:α} {v:β} {e:α × β},e ∈ bY es k v->e=(k,v)\/e ∈ es
 | [],_,_,_,h=>.inl (List.mem_singleton.1 h)
 | e0 :: es,k,v,e,h=>by
  unfold bY at h
  split at h
  ·rcases List.mem_cons.1 h with h | h
   ·exact .inl h
   ·exact .inr (List.mem_cons_of_mem _ h)
  ·rcases List.mem_cons.1 h with h | h
   ·exact .inr (h ▸ List.mem_cons_self)
   ·rcases aEq h with h | h
    ·exact .inl h
    ·exact .inr (List.mem_cons_of_mem _ h)
theorem aNf {α β:Type} [DecidableEq α]:∀ (es:List (α × β)) (k:α) (v:β),(bY es k v).length <= es.length + 1
 | [],_,_=>by simp [bY]
 | e0 :: es,k,v=>by
  unfold bY
  split
  ·simp
  ·have:=aNf es k v;simp;omega
theorem aF7 {α β:Type} [DecidableEq α]:∀ {es:List (α × β)} {k:α} {v:β},(es.map (·.1)).Nodup->((bY es k v).map (·.1)).Nodup
 | [],_,_,_=>by simp [bY]
 | e0 :: es,k,v,h=>by
  have h':(e0.1 :: es.map (·.1)).Nodup:=h
  rw [List.nodup_cons] at h'
  unfold bY
  split
  ·rename_i he
   show (k :: es.map (·.1)).Nodup
   rw [<- he];exact h
  ·rename_i he
   show (e0.1 :: (bY es k v).map (·.1)).Nodup
   refine List.nodup_cons.2 ⟨fun q=>?_,aF7 h'.2⟩
   obtain ⟨e,q1,q2⟩:=List.mem_map.1 q
   rcases aEq q1 with rfl | q1
   ·exact he q2.symm
   ·exact h'.1 (List.mem_map.2 ⟨e,q1,q2⟩)
theorem Wd.get {mp:MP} {B:Nat} (h:Wd mp B) (k:Arr 2):((bL mp k).getD []).length <= B:=by
 cases e:bL mp k with
 | none=>simp
 | some v=>exact h.row _ (aAp e)
theorem Wd.add {mp:MP} {B:Nat} (h:Wd mp B) (x:Rd) (j:Nat):Wd (qM mp x j) (B + 1):=by
 unfold qM
 split
 ·have hl:=aNf mp (kyr x j) ((bL mp (kyr x j)).getD [] ++ [(x.2.2.1,x.2.2.2)])
  refine ⟨by have:=h.len;omega,fun e he=>?_⟩
  rcases aEq he with rfl | he
  ·have:=h.get (kyr x j)
   show (_ ++ _:List Tk).length <= _
   rw [List.length_append];simp;omega
  ·have:=h.row e he;omega
 ·exact h.mono (by omega)
theorem Wd.add4 {mp:MP} {B:Nat} (h:Wd mp B) (x:Rd):Wd (wZ mp x) (B + 4):=(((h.add x 0).add x 1).add x 2).add x 3
theorem Wd.addL:∀ {rs:List Rd} {mp:MP} {B:Nat},Wd mp B->Wd (rs.foldl wZ mp) (B + 4 * rs.length)
 | [],_,_,h=>h.mono (by omega)
 | x :: r,mp,B,h=>(Wd.addL (rs:=r) (h.add4 x)).mono (by simp;omega)
section
variable {rec22:(List De)->Int->(List Rd)->Int->Int->(List (Int × Bool))->MP->Option ((List De) × (Int × ((List (Int × Bool)) × MP)))} {l:List De} {k i:Int} {rs:List Rd} {n:Int} {need:MB}
theorem vC {mp:MP} {x:Rd} {B:Nat} (hw:Wd mp B) (hB:B <= 4000000000000) {j m:Nat} (hj:j <= 3) :
  dC rec22 (m + 1) l k (j:Int) rs n i need mp x.1 x.2.1 x.2.2.1 x.2.2.2=dC rec22 m l k ((j + 1:Nat):Int) rs n i need (qM mp x j) x.1 x.2.1 x.2.2.1 x.2.2.2:=by
 show jP rec22 (dC rec22 m) l k (j:Int) rs n i need mp _ _ _ _=_
 unfold jP
 have h8:(0:Int) < 1 * 2 ^ j/\(1 * 2 ^ j:Int) <= 8:=by
  match j,hj with
  | 0,_=>decide
  | 1,_=>decide
  | 2,_=>decide
  | 3,_=>decide
 have hky:(Arr.from [x.1,1 * 2 ^ j] 2)=kyr x j:=rfl
 have hg:=hw.get (kyr x j)
 rw [decide_eq_true (show (j:Int) <= 3 by omega),aG,aO (by omega),aO (by show (j:Int) <= 64;omega),Int.toNat_natCast,bV (by omega) (by omega),hky,bCt,wQ (x:=1 * 2 ^ j) rfl]
 unfold qM
 show bd? (if? (aEt x j) _ _) _=_
 cases hb:aEt x j with
 | true =>
  rw [aG,aR,aO (show ((((bL mp (kyr x j)).getD []).length + [(x.2.2.1,x.2.2.2)].length) * 16 <= 140737488355328) by simp;omega),aR,bGz]
  simp only [aL,if_true]
  rw [bV (by omega) (by omega)]
  rfl
 | false =>
  rw [aC]
  simp only [aL,Bool.false_eq_true,if_false]
  rw [bV (by omega) (by omega)]
  rfl
theorem aYa {mp:MP} {x:Rd} {B N:Nat} (hw:Wd mp B) (hB:B <= 3000000000000) (hN:5 <= N) :
  dC rec22 N l k 0 rs n i need mp x.1 x.2.1 x.2.2.1 x.2.2.2=ck .i64 (i + 1) (rec22 l k rs n (i + 1) need (wZ mp x)):=by
 obtain ⟨m,rfl⟩:∃ m,N=m + 1 + 1 + 1 + 1 + 1:=⟨N - 5,by omega⟩
 show dC rec22 (m + 1 + 1 + 1 + 1 + 1) l k ((0:Nat):Int) _ _ _ _ _ _ _ _ _=_
 rw [vC hw (by omega) (by omega),vC (hw.add x 0) (by omega) (by omega),vC ((hw.add x 0).add x 1) (by omega) (by omega),vC (((hw.add x 0).add x 1).add x 2) (by omega) (by omega)]
 rfl
end
theorem aCn {N:Nat} (hN:5 <= N) {l:List De} {k:Int} {rs:List Rd} {need:MB} (hr:rs.length <= 100000000000):∀ (m i:Nat) (mp:MP) (B:Nat),i <= rs.length->rs.length - i < m->Wd mp B->B + 4 * (rs.length - i) <= 2000000000000 ->
  gE N m l k rs ((rs.length:Nat):Int) (i:Int) need mp=some (l,k,need,(rs.drop i).foldl wZ mp)
 | 0,_,_,_,_,h,_,_=>absurd h (Nat.not_lt_zero _)
 | m + 1,i,mp,B,h1,h,hw,hB=>by
  show jY N (gE N m) l k rs _ _ need mp=_
  unfold jY
  by_cases hlt:i < rs.length
  ·rw [fX hlt,aG,bM (bU hlt),List.drop_eq_getElem_cons hlt,List.foldl_cons]
   rw [aYa hw (by omega) hN,bV (by omega) (by omega),show ((i:Int) + 1)=((i + 1:Nat):Int) by omega]
   exact aCn hN hr m (i + 1) _ (B + 4) (by omega) (by omega) (hw.add4 _) (by omega)
  ·rw [gI hlt,aC,List.drop_of_length_le (by omega)];rfl
theorem aCa {N:Nat} {l:List De} {k:Nat} {d:De} (hk:l[k]?=some d) {mp:MP} (hl:d.2.2.length <= 4000000000000):∀ (m i:Nat) (need:MB),i <= d.2.2.length->d.2.2.length - i < m ->
  kF N m l (k:Int) d.2.2 ((d.2.2.length:Nat):Int) (i:Int) need mp=gE N N l (k:Int) d.2.1 ((d.2.1.length:Nat):Int) 0 (inM need (d.2.2.drop i)) mp
 | 0,_,_,_,h=>absurd h (Nat.not_lt_zero _)
 | m + 1,i,need,h1,h=>by
  show jX N (kF N m) l _ d.2.2 _ _ need mp=_
  unfold jX
  by_cases hlt:i < d.2.2.length
  ·rw [fX hlt,aG,bM (bU hlt),List.drop_eq_getElem_cons hlt,bV (by omega) (by omega),show ((i:Int) + 1)=((i + 1:Nat):Int) by omega]
   exact aCa hk hl m (i + 1) _ (by omega) (by omega)
  ·rw [gI hlt,aC,List.drop_of_length_le (by omega),bM hk];rfl
def aL9:List De->MB->MP->MP
 | [],_,mp=>mp
 | d :: r,need,mp=>if has need d.1=true then aL9 r (inM need d.2.2) (d.2.1.foldl wZ mp) else aL9 r need mp
theorem uE {N:Nat} (hN:5 <= N) {l:List De} (hl:l.length <= 100000) (hR:∀ d ∈ l,d.2.1.length <= 100/\d.2.1.length < N/\d.2.2.length < N/\d.2.2.length <= 4000000000000) :
  ∀ (m k:Nat) (need:MB) (mp:MP) (B:Nat),k <= l.length->k < m->Wd mp B->B + 400 * k <= 1000000000000 ->
  gF N m l ((k:Int) - 1) need mp=dY N N [] (aL9 (l.take k).reverse need mp) ((aL9 (l.take k).reverse need mp).map (fun z=>z.1))
 | 0,_,_,_,_,_,h,_,_=>absurd h (Nat.not_lt_zero _)
 | m + 1,0,need,mp,B,h1,h,hw,hB=>by
  show eD N (gF N m) l (((0:Nat):Int) - 1) need mp=_
  unfold eD
  rw [decide_eq_false (by omega),aC];rfl
 | m + 1,k + 1,need,mp,B,h1,h,hw,hB=>by
  have hk:k < l.length:=by omega
  obtain ⟨r1,r2,r3,r4⟩:=hR _ (List.getElem_mem hk)
  show eD N (gF N m) l _ need mp=_
  unfold eD
  have hrev:(l.take (k + 1)).reverse=l[k] :: (l.take k).reverse:=by rw [<- List.take_append_getElem hk,List.reverse_append];rfl
  rw [show (((k + 1:Nat):Int) - 1)=(k:Int) by omega,decide_eq_true (by omega),aG,bM (bU hk),bM (bU hk),hrev,aL9]
  show bd? (if? (!has need l[k].1) _ _) _=_
  rw [oG]
  cases hb:has need l[k].1 with
  | true =>
   rw [aG]
   have e1:=aCa (N:=N) (mp:=mp) (bU hk) r4 N 0 need (Nat.zero_le _) (by omega)
   have e2:=aCn (N:=N) (l:=l) (k:=(k:Int)) (rs:=l[k].2.1) (need:=inM need l[k].2.2) hN (by omega) N 0 mp B (Nat.zero_le _) (by omega) hw (by omega)
   rw [List.drop_zero] at e1 e2
   rw [show (0:Int)=((0:Nat):Int) from rfl,e1,show (0:Int)=((0:Nat):Int) from rfl,e2]
   simp only [aL,if_true]
   rw [bV (by omega) (by omega)]
   exact uE hN hl hR m k _ _ (B + 4 * l[k].2.1.length) (by omega) (by omega) hw.addL (by omega)
  | false =>
   rw [aC]
   simp only [aL,Bool.false_eq_true,if_false]
   rw [bV (by omega) (by omega)]
   exact uE hN hl hR m k _ _ B (by omega) (by omega) hw (by omega)
def g0 (k:Arr 2):Int:=k.l[0]'(by rw [k.len];omega)
def g1 (k:Arr 2):Int:=k.l[1]'(by rw [k.len];omega)
theorem aUq {a b:Arr 2} (h0:g0 a=g0 b) (h1:g1 a=g1 b):a=b:=by
 apply Arr.ext
 have ha:=a.len
 have hb:=b.len
 unfold g0 at h0
 unfold g1 at h1
 match ea:a.l,eb:b.l,ha,hb with
 | [x,y],[z,w],_,_ =>
  simp only [ea,eb] at h0 h1
  simp at h0 h1
  rw [h0,h1]
def rdK (k:Arr 2) (t:Tk):Rd:=(g0 k,g1 k,t.1,t.2)
def sT (k:Arr 2) (v:List Tk):List Rd:=(mg0 (eY (0,0) (ltOf cfT) v)).map (rdK k)
def oX (mp:MP) (rem:List (Arr 2)):List Rd:=rem.flatMap fun k=>sT k ((bL mp k).getD [])
theorem aP7:∀ (pre:List Tk) (z:Tk) (r:List Tk),(mg pre z r).length <= pre.length + 1 + r.length
 | pre,z,[]=>by simp [mg]
 | pre,z,t :: r=>by
  unfold mg
  split
  ·have:=aP7 pre (z.1,max z.2 t.2) r;simp at *;omega
  ·have:=aP7 (pre ++ [z]) t r;simp at *;omega
theorem aBb (k:Arr 2) (v:List Tk):(sT k v).length <= v.length:=by
 unfold sT
 rw [List.length_map]
 have hlen:=vI (z:=((0,0):Tk)) aXb v
 generalize eY (0,0) (ltOf cfT) v=s at *
 cases s with
 | nil=>simp [mg0]
 | cons t r=>have:=aP7 [] t r;simp [mg0] at *;omega
section
variable {N:Nat} {rec47:(List Rd)->MP->(List (Arr 2))->Option (Int × (List Rd))} {mp:MP} {rem:List (Arr 2)} {k:Arr 2}
theorem aSh {t:List Tk} (ht:t.length <= 1000000000000):∀ (m i:Nat) (out:List Rd),i <= t.length->t.length - i < m->out.length + (t.length - i) <= 1000000000000 ->
  jN rec47 m ((t.length:Nat):Int) (i:Int) out k mp rem t=rec47 (out ++ (t.drop i).map (rdK k)) mp rem
 | 0,_,_,_,h,_=>absurd h (Nat.not_lt_zero _)
 | m + 1,i,out,h1,h,hB=>by
  show jW rec47 (jN rec47 m) _ _ out k mp rem t=_
  unfold jW
  have k0:k.l[0]?=some (g0 k):=List.getElem?_eq_getElem _
  have k1:k.l[1]?=some (g1 k):=List.getElem?_eq_getElem _
  by_cases hlt:i < t.length
  ·rw [fX hlt,aG,aO (by omega),aO (by omega),Int.toNat_natCast,wQ (bU hlt),wQ k0,wQ k1,aR,aO (by simp only [List.length_cons,List.length_nil];omega),bV (by omega) (by omega),aR,aR,show ((i:Int) + 1)=((i + 1:Nat):Int) by omega]
   rw [aSh ht m (i + 1) _ (by omega) (by omega) (by simp;omega),List.drop_eq_getElem_cons hlt,List.map_cons]
   simp [rdK]
  ·rw [gI hlt,aC,List.drop_of_length_le (by omega),aR]
   simp
end
def Apt (l:List Rd):Prop:=l.Pairwise fun x y=>(ltOf cfR x y || ltOf cfR y x)=true
theorem aEf:∀ {l:List Rd},Apt l->aFa (ltOf cfR) l=true
 | [],_=>rfl
 | x :: l,h=>by
  have h:=List.pairwise_cons.1 h
  unfold aFa
  rw [Bool.and_eq_true,List.all_eq_true]
  exact ⟨h.1,aEf h.2⟩
theorem Apt.perm {l l':List Rd} (h:Apt l) (hp:l.Perm l'):Apt l' :=
 (List.Perm.pairwise_iff (fun {a b} (q:(ltOf cfR a b || ltOf cfR b a)=true)=>by rw [Bool.or_comm];exact q) hp).1 h
theorem aS8 {l l':List Rd} (h:Apt l) (hp:l.Perm l'):aC2 (ltOf cfR) l=aC2 (ltOf cfR) l' :=
 aCj aYf (aEf h) ((iA _ l').trans hp.symm) (mJ aYf l')
theorem aD4 {α:Type}:∀ {l:List α} {j:Nat} {k:α},l[j]?=some k->l.Perm (k :: l.eraseIdx j)
 | [],j,k,h=>by simp at h
 | x :: l,0,k,h=>by simp at h;subst h;exact .refl _
 | x :: l,j + 1,k,h=>by
  have h:l[j]?=some k:=by simpa using h
  exact ((aD4 h).cons x).trans (.swap k x _)
theorem aRb {N:Nat} {mp:MP} {B:Nat} (hN:4 <= N) (hw:Wd mp B) (hBN:B < N) (hB:B <= 1000000) (hn:(mp.map (·.1)).Nodup):∀ (m:Nat) (out:List Rd) (rem:List (Arr 2)),rem.length < m->rem.Nodup->(∀ k ∈ rem,∃ v,bL mp k=some v) ->
  out.length + rem.length * B <= 1000000000000->Apt (out ++ oX mp rem) ->
  dY N m out mp rem=some (0,aC2 (ltOf cfR) (out ++ oX mp rem))
 | 0,_,_,h,_,_,_,_=>absurd h (Nat.not_lt_zero _)
 | m + 1,out,rem,h,hnd,hex,hsz,hap=>by
  show lB N (dY N m) out mp rem=_
  unfold lB
  refine bHb (fun e=>?_) (fun j k hj=>?_)
  ·subst e
   have e1:oX mp []=[]:=rfl
   rw [e1,List.append_nil] at hap |-
   have ha:=aEf hap
   have e2:cF N out=some (aC2 (ltOf cfR) out):=by
    unfold cF
    rw [if_pos ⟨by omega,hN⟩]
    unfold eY
    rw [ha]
   have e3:(aC2 (ltOf cfR) out).length=out.length:=(iA _ out).length_eq
   rw [aR,e2]
   simp only [aL]
   rw [aW9 e3.symm]
  ·have hjl:j < rem.length:=by
    rcases Nat.lt_or_ge j rem.length with q | q
    ·exact q
    ·rw [List.getElem?_eq_none q] at hj;cases hj
   have hp:=aD4 hj
   have hnd2:(k :: rem.eraseIdx j).Nodup:=hp.nodup_iff.1 hnd
   have hk:k ∈ rem:=hp.mem_iff.2 List.mem_cons_self
   obtain ⟨v,hv⟩:=hex k hk
   have hvB:v.length <= B:=hw.row _ (aAp hv)
   have hlenE:rem.length=(rem.eraseIdx j).length + 1:=by rw [hp.length_eq];rfl
   rw [aO (List.nodup_cons.1 hnd2).1,hv]
   simp only [aL]
   rw [aR,aZi (by omega) (by omega)]
   simp only [aL]
   rw [aR,aR]
   have hrl:=aBb k v
   unfold sT at hrl
   rw [List.length_map] at hrl
   have hmul:rem.length * B=(rem.eraseIdx j).length * B + B:=by rw [hlenE,Nat.succ_mul]
   have e1:=aSh (rec47:=dY N m) (mp:=mp) (rem:=rem.eraseIdx j) (k:=k) (t:=mg0 (eY (0,0) (ltOf cfT) v)) (by omega) N 0 out (Nat.zero_le _) (by omega) (by omega)
   refine Eq.trans e1 ?_
   rw [List.drop_zero]
   have hfl:(out ++ oX mp rem).Perm ((out ++ sT k v) ++ oX mp (rem.eraseIdx j)):=by
    rw [List.append_assoc]
    refine List.Perm.append_left _ ?_
    have:(oX mp rem).Perm (oX mp (k :: rem.eraseIdx j)):=List.Perm.flatMap_right _ hp
    refine this.trans ?_
    show (sT k ((bL mp k).getD []) ++ oX mp (rem.eraseIdx j)).Perm _
    rw [hv];exact .refl _
   rw [aS8 hap hfl]
   refine aRb hN hw hBN hB hn m _ _ (by omega) (List.nodup_cons.1 hnd2).2 (fun k' hk'=>hex k' (hp.mem_iff.2 (List.mem_cons_of_mem _ hk'))) ?_ (hap.perm hfl)
   rw [List.length_append,List.length_map];omega
theorem rR {mp:MP} (h:(mp.map (·.1)).Nodup) (x:Rd) (j:Nat):((qM mp x j).map (·.1)).Nodup:=by
 unfold qM
 split
 ·exact aF7 h
 ·exact h
theorem aEg:∀ {rs:List Rd} {mp:MP},(mp.map (·.1)).Nodup->((rs.foldl wZ mp).map (·.1)).Nodup
 | [],_,h=>h
 | x :: r,_,h=>aEg (rs:=r) (rR (rR (rR (rR h x 0) x 1) x 2) x 3)
def ndl:List De->MB->List De
 | [],_=>[]
 | d :: r,need=>if has need d.1=true then d :: ndl r (inM need d.2.2) else ndl r need
theorem aI0:∀ (r:List De) (need:MB) (mp:MP),aL9 r need mp=((ndl r need).flatMap (·.2.1)).foldl wZ mp
 | [],_,_=>rfl
 | d :: r,need,mp=>by
  unfold aL9 ndl
  split
  ·rw [List.flatMap_cons,List.foldl_append,aI0 r]
  ·exact aI0 r _ _
theorem aAs:∀ {r:List De} {need:MB} {d:De},d ∈ ndl r need->d ∈ r
 | [],_,_,h=>by cases h
 | x :: r,need,d,h=>by
  unfold ndl at h
  split at h
  ·rcases List.mem_cons.1 h with rfl | h
   ·exact List.mem_cons_self
   ·exact List.mem_cons_of_mem _ (aAs h)
  ·exact List.mem_cons_of_mem _ (aAs h)
theorem aAj:∀ (r:List De) (need:MB),(ndl r need).length <= r.length
 | [],_=>Nat.le_refl _
 | x :: r,need=>by
  unfold ndl
  split
  ·have:=aAj r (inM need x.2.2);simp;omega
  ·have:=aAj r need;simp;omega
theorem yK {mp:MP} {x:Rd} {j:Nat} {k:Arr 2} {t:Tk}:t ∈ (bL (qM mp x j) k).getD [] ↔ t ∈ (bL mp k).getD []\/(aEt x j=true/\kyr x j=k/\t=x.2.2):=by
 unfold qM
 by_cases h:aEt x j=true
 ·rw [if_pos h,aNs]
  by_cases hk:k=kyr x j
  ·rw [if_pos hk,hk]
   simp only [Option.getD_some,List.mem_append,List.mem_singleton]
   constructor
   ·rintro (q | q)
    ·exact .inl q
    ·exact .inr ⟨h,trivial,q⟩
   ·rintro (q | ⟨_,_,q⟩)
    ·exact .inl q
    ·exact .inr q
  ·rw [if_neg hk]
   constructor
   ·exact .inl
   ·rintro (q | ⟨_,q,_⟩)
    ·exact q
    ·exact absurd q.symm hk
 ·rw [if_neg h]
  constructor
  ·exact .inl
  ·rintro (q | ⟨q,_⟩)
   ·exact q
   ·exact absurd q h
def bE5 (x:Rd) (k:Arr 2):Prop:=∃ j,j <= 3/\aEt x j=true/\kyr x j=k
theorem aXq {mp:MP} {x:Rd} {k:Arr 2} {t:Tk}:t ∈ (bL (wZ mp x) k).getD [] ↔ t ∈ (bL mp k).getD []\/(bE5 x k/\t=x.2.2):=by
 unfold wZ
 rw [yK,yK,yK,yK]
 constructor
 ·rintro ((((q | ⟨a,b,c⟩) | ⟨a,b,c⟩) | ⟨a,b,c⟩) | ⟨a,b,c⟩)
  ·exact .inl q
  ·exact .inr ⟨⟨0,by omega,a,b⟩,c⟩
  ·exact .inr ⟨⟨1,by omega,a,b⟩,c⟩
  ·exact .inr ⟨⟨2,by omega,a,b⟩,c⟩
  ·exact .inr ⟨⟨3,by omega,a,b⟩,c⟩
 ·rintro (q | ⟨⟨j,hj,a,b⟩,c⟩)
  ·exact .inl (.inl (.inl (.inl q)))
  ·match j,hj with
   | 0,_=>exact .inl (.inl (.inl (.inr ⟨a,b,c⟩)))
   | 1,_=>exact .inl (.inl (.inr ⟨a,b,c⟩))
   | 2,_=>exact .inl (.inr ⟨a,b,c⟩)
   | 3,_=>exact .inr ⟨a,b,c⟩
theorem aLy {k:Arr 2} {t:Tk}:∀ {rs:List Rd} {mp:MP},t ∈ (bL (rs.foldl wZ mp) k).getD [] ↔ t ∈ (bL mp k).getD []\/∃ x ∈ rs,bE5 x k/\t=x.2.2
 | [],mp=>by simp
 | x :: r,mp=>by
  rw [List.foldl_cons,aLy (rs:=r),aXq]
  constructor
  ·rintro ((q | q) | ⟨y,hy,q⟩)
   ·exact .inl q
   ·exact .inr ⟨x,List.mem_cons_self,q⟩
   ·exact .inr ⟨y,List.mem_cons_of_mem _ hy,q⟩
  ·rintro (q | ⟨y,hy,q⟩)
   ·exact .inl (.inl q)
   ·rcases List.mem_cons.1 hy with rfl | hy
    ·exact .inl (.inr q)
    ·exact .inr ⟨y,hy,q⟩
def vO (l:List De) (id:Int):MP:=aL9 (l.take (cnt l id + 1)).reverse (bY [] id true) []
def xX (mp:MP):List (Arr 2):=mp.map (·.1)
def rds (l:List De) (id:Int):List Rd:=aC2 (ltOf cfR) (oX (vO l id) (xX (vO l id)))
def nL (l:List De) (id:Int):List De:=ndl (l.take (cnt l id + 1)).reverse (bY [] id true)
theorem aDe (l:List De) (id:Int):vO l id=((nL l id).flatMap (·.2.1)).foldl wZ []:=aI0 _ _ _
theorem xQ (l:List De) (id:Int):(xX (vO l id)).Nodup:=by
 rw [aDe]
 exact aEg (by simp)
theorem aGi {l:List De} {id:Int} {k:Arr 2} {t:Tk}:t ∈ (bL (vO l id) k).getD [] ↔ ∃ d ∈ nL l id,∃ x ∈ d.2.1,bE5 x k/\t=x.2.2:=by
 rw [aDe,aLy]
 constructor
 ·rintro (q | ⟨x,hx,q⟩)
  ·simp [bL] at q
  ·obtain ⟨d,hd,hx⟩:=List.mem_flatMap.1 hx
   exact ⟨d,hd,x,hx,q⟩
 ·rintro ⟨d,hd,x,hx,q⟩
  exact .inr ⟨x,List.mem_flatMap.2 ⟨d,hd,hx⟩,q⟩
theorem vG {l:List De} {id:Int} {d:De} (h:d ∈ nL l id):d ∈ l:=List.mem_of_mem_take (List.mem_reverse.1 (aAs h))
theorem pM {α β:Type} {f:α->List β} {B:Nat}:∀ {l:List α},(∀ x ∈ l,(f x).length <= B)->(l.flatMap f).length <= l.length * B
 | [],_=>by simp
 | x :: l,h=>by
  have h1:=h x List.mem_cons_self
  have h2:=pM (f:=f) (B:=B) (l:=l) fun y hy=>h y (List.mem_cons_of_mem _ hy)
  rw [List.flatMap_cons,List.length_append,List.length_cons,Nat.succ_mul];omega
theorem bA4 {l:List De} {id:Int} {R:Nat} (hR:∀ d ∈ l,d.2.1.length <= R):Wd (vO l id) (4 * (l.length * R)):=by
 rw [aDe]
 have h0:Wd ([]:MP) 0:=⟨Nat.le_refl _,fun _ h=>by cases h⟩
 have h1:=h0.addL (rs:=(nL l id).flatMap (·.2.1))
 have h2:((nL l id).flatMap (·.2.1)).length <= (nL l id).length * R:=pM fun d hd=>hR d (vG hd)
 have h3:(nL l id).length <= l.length:=by
  have:=aAj (l.take (cnt l id + 1)).reverse (bY [] id true)
  rw [List.length_reverse,List.length_take] at this
  unfold nL;omega
 have h4:=Nat.mul_le_mul_right R h3
 exact h1.mono (by omega)
theorem aFc {v:List Tk} (h:∀ t ∈ v,t.1 < t.2):(mg0 (eY (0,0) (ltOf cfT) v)).Pairwise (fun a b=>a.2 < b.1)/\(∀ t ∈ mg0 (eY (0,0) (ltOf cfT) v),t.1 < t.2)/\∀ x,cov (mg0 (eY (0,0) (ltOf cfT) v)) x ↔ cov v x:=by
 obtain ⟨p1,p2⟩:=aL2 ((0,0):Tk) aXb v
 have h1:(eY (0,0) (ltOf cfT) v).Pairwise (fun a b=>a.1 <= b.1):=p2.imp fun {a b} q=>by
  rw [ltT] at q
  have:=of_decide_eq_false q
  omega
 obtain ⟨i1,i2,i3⟩:=aWz h1 fun t ht=>h t (p1.mem_iff.1 ht)
 refine ⟨i1,i2,fun x=>(i3 x).trans ?_⟩
 unfold cov
 constructor
 ·rintro ⟨t,ht,q⟩;exact ⟨t,p1.mem_iff.1 ht,q⟩
 ·rintro ⟨t,ht,q⟩;exact ⟨t,p1.mem_iff.2 ht,q⟩
def Fwd (mp:MP):Prop:=∀ k,∀ t ∈ (bL mp k).getD [],t.1 < t.2
theorem aS9 {k:Arr 2} {v:List Tk} (h:∀ t ∈ v,t.1 < t.2):Apt (sT k v):=by
 obtain ⟨i1,i2,_⟩:=aFc h
 unfold sT Apt
 rw [List.pairwise_map]
 refine List.Pairwise.imp_of_mem (fun {a b} ha hb q=>?_) i1
 have:=i2 a ha
 rw [ltR,Bool.or_eq_true,decide_eq_true_eq]
 exact .inl (.inr ⟨rfl,.inr ⟨rfl,by show a.1 < b.1;omega⟩⟩)
theorem aBd {mp:MP} (h:Fwd mp):∀ {ks:List (Arr 2)},ks.Nodup->Apt (oX mp ks)
 | [],_=>List.Pairwise.nil
 | k :: ks,hn=>by
  have hn:=List.nodup_cons.1 hn
  show Apt (sT k _ ++ oX mp ks)
  refine List.pairwise_append.2 ⟨aS9 (h k),aBd h hn.2,fun x hx y hy=>?_⟩
  obtain ⟨t,_,rfl⟩:=List.mem_map.1 hx
  obtain ⟨k',hk',hy⟩:=List.mem_flatMap.1 hy
  obtain ⟨u,_,rfl⟩:=List.mem_map.1 hy
  have hne:k ≠ k':=fun e=>hn.1 (e ▸ hk')
  have hne:¬ (g0 k=g0 k'/\g1 k=g1 k'):=fun q=>hne (aUq q.1 q.2)
  rw [ltR,ltR,Bool.or_eq_true,decide_eq_true_eq,decide_eq_true_eq]
  unfold zY rdK
  simp only
  omega
theorem aO6 {l:List De} (hr:∀ d ∈ l,cR d=true) {d:De} (hd:d ∈ l) {x:Rd} (hx:x ∈ d.2.1):0 <= x.1/\x.1 < 40/\0 <= x.2.2.1/\x.2.2.1 < x.2.2.2/\x.2.2.2 <= 1402560/\0 < x.2.1/\(bits .andNot .i64 x.2.1 15)=0:=by
 have:=hr d hd
 unfold cR at this
 simp only [Bool.and_eq_true] at this
 have h:=this.1.2
 rw [Bool.not_eq_true',List.any_eq_false] at h
 have h:=h x hx
 unfold aG3 at h
 simp only [Bool.or_eq_true,decide_eq_true_eq,not_or,bne_iff_ne,ne_eq,Decidable.not_not] at h
 obtain ⟨⟨⟨⟨⟨⟨a,b⟩,c⟩,d⟩,e⟩,f⟩,g⟩:=h
 exact ⟨by omega,by omega,by omega,by omega,by omega,by omega,g⟩
theorem qV {l:List De} (hr:∀ d ∈ l,cR d=true) (id:Int):Fwd (vO l id):=fun k t ht=>by
 obtain ⟨d,hd,x,hx,_,rfl⟩:=aGi.1 ht
 exact (aO6 hr (vG hd) hx).2.2.2.1
theorem aS1:∀ {r pre:List De},okL pre r=true->∀ d ∈ r,cR d=true:=by
 intro r
 induction r with
 | nil=>intro _ _ d hd;cases hd
 | cons e r ih =>
  intro pre h d hd
  unfold okL at h
  rw [Bool.and_eq_true] at h
  rcases List.mem_cons.1 hd with rfl | hd
  ·have:=h.1
   unfold okD at this
   simp only [Bool.and_eq_true] at this
   exact this.1.2
  ·exact ih h.2 d hd
theorem oA {l:List De} (h:chk l=0):∀ d ∈ l,cR d=true:=aS1 (aOx h)
theorem aU3 {N:Nat} {l:List De} {R:Nat} (hf:Few N l) (hR:∀ d ∈ l,d.2.1.length <= R) (hR0:R <= 100) (ho:∀ d ∈ l,d.2.2.length <= 4000000000000) (hN:4 * (l.length * R) < N) (hN5:5 <= N) (hl:l.length <= 2500) (id:Int) :
  dF N l id=some (if chk l=0 then if id ∈ ids l then (0,rds l id) else (8,[]) else (chk l,[])):=by
 unfold dF
 rw [qK hf]
 simp only [aL]
 by_cases h:chk l=0
 ·have hs:=dS h
  rw [h,aYm hs hf.big hf.len,if_pos rfl]
  simp only [bne_self_eq_false,aC,aL]
  by_cases hid:id ∈ ids l
  ·rw [decide_eq_true hid,if_pos hid,oG,aG]
   obtain ⟨hc,_⟩:=(aBe hs).2 hid
   have hlR:l.length * R <= 2500 * 100:=Nat.mul_le_mul hl hR0
   have e1:=uE (N:=N) (l:=l) hN5 (by omega) (fun d hd=>⟨by have:=hR d hd;omega,(hf.rd d hd).1,(hf.of d hd).1,ho d hd⟩) N (cnt l id + 1) (bY [] id true) [] 0 (by omega) (by have:=hf.len;omega) ⟨Nat.le_refl _,fun _ h=>by cases h⟩ (by omega)
   rw [show (((cnt l id:Nat):Int))=(((cnt l id + 1:Nat):Int) - 1) by omega,e1]
   have hw:=bA4 (id:=id) hR
   have hnd:=xQ l id
   have hap:=aBd (qV (oA h) id) hnd
   have hkl:(xX (vO l id)).length <= 4 * (l.length * R):=by unfold xX;rw [List.length_map];exact hw.len
   have hm:=Nat.mul_le_mul hkl (Nat.le_refl (4 * (l.length * R)))
   have hm2:(4 * (l.length * R)) * (4 * (l.length * R)) <= 1000000 * 1000000:=Nat.mul_le_mul (by omega) (by omega)
   have e2:=aRb (N:=N) (mp:=vO l id) (by omega) hw hN (by omega) hnd N [] (xX (vO l id)) (by omega) hnd (fun k hk=>by
    obtain ⟨e,he,rfl⟩:=List.mem_map.1 hk
    exact ⟨e.2,aJ2 hnd he⟩) (by simp only [List.length_nil];omega) (by rw [List.nil_append];exact hap)
   exact e2
  ·rw [decide_eq_false hid,if_neg hid,oG,aC]
 ·rw [if_neg h,show (chk l != 0)=true by simpa using h];rfl
theorem xW {l:List De} {id:Int} {x:Rd}:x ∈ rds l id ↔ ∃ k,x ∈ sT k ((bL (vO l id) k).getD []):=by
 unfold rds
 rw [(iA _ _).mem_iff]
 unfold oX
 rw [List.mem_flatMap]
 constructor
 ·rintro ⟨k,_,q⟩;exact ⟨k,q⟩
 ·rintro ⟨k,q⟩
  refine ⟨k,?_,q⟩
  cases e:bL (vO l id) k with
  | none=>rw [e] at q;have:=aBb k (Option.getD (none:Option (List Tk)) []);rw [List.eq_nil_of_length_eq_zero (Nat.le_zero.1 this)] at q;cases q
  | some v=>exact List.mem_map.2 ⟨_,aAp e,rfl⟩
def aOw (rs:List Rd) (g kb t:Int):Prop:=∃ x ∈ rs,x.1=g/\x.2.1=kb/\x.2.2.1 <= t/\t < x.2.2.2
theorem aSm (x:Rd) (j:Nat):g0 (kyr x j)=x.1/\g1 (kyr x j)=1 * 2 ^ j:=by
 unfold g0 g1
 simp only [bCt]
 exact ⟨rfl,rfl⟩
theorem aRe {l:List De} (hr:∀ d ∈ l,cR d=true) {id g kb t:Int}:aOw (rds l id) g kb t ↔ ∃ d ∈ nL l id,∃ x ∈ d.2.1,x.1=g/\(∃ j,j <= 3/\aEt x j=true/\1 * 2 ^ j=kb)/\x.2.2.1 <= t/\t < x.2.2.2:=by
 constructor
 ·rintro ⟨x,hx,rfl,rfl,h1,h2⟩
  obtain ⟨k,hx⟩:=xW.1 hx
  obtain ⟨u,hu,rfl⟩:=List.mem_map.1 hx
  obtain ⟨v,hv,q⟩:=((aFc (qV hr id k)).2.2 t).1 ⟨u,hu,h1,h2⟩
  obtain ⟨d,hd,y,hy,⟨j,hj,a,b⟩,rfl⟩:=aGi.1 hv
  subst b
  exact ⟨d,hd,y,hy,(aSm y j).1.symm,⟨j,hj,a,(aSm y j).2.symm⟩,q⟩
 ·rintro ⟨d,hd,y,hy,rfl,⟨j,hj,a,rfl⟩,q⟩
  have hm:y.2.2 ∈ (bL (vO l id) (kyr y j)).getD []:=aGi.2 ⟨d,hd,y,hy,⟨j,hj,a,rfl⟩,rfl⟩
  obtain ⟨u,hu,q2⟩:=((aFc (qV hr id (kyr y j))).2.2 t).2 ⟨y.2.2,hm,q⟩
  exact ⟨rdK (kyr y j) u,xW.2 ⟨kyr y j,List.mem_map.2 ⟨u,hu,rfl⟩⟩,(aSm y j).1,(aSm y j).2,q2⟩
theorem aQ5 {l:List De} (hr:∀ d ∈ l,cR d=true) {id:Int} {x:Rd} (hx:x ∈ rds l id):x.2.2.1 < x.2.2.2:=by
 obtain ⟨k,hx⟩:=xW.1 hx
 obtain ⟨u,hu,rfl⟩:=List.mem_map.1 hx
 exact (aFc (qV hr id k)).2.1 u hu
inductive Aff (l:List De) (T:De->Prop):De->Prop
 | own {d:De}:d ∈ l->T d->Aff l T d
 | of {d e:De}:d ∈ l->Aff l T e->e.1 ∈ d.2.2->Aff l T d
theorem Aff.mem {l:List De} {T:De->Prop} {d:De} (h:Aff l T d):d ∈ l:=by cases h <;> assumption
theorem Aff.imp {l:List De} {T U:De->Prop} (hTU:∀ d,T d->U d) {d:De} (h:Aff l T d):Aff l U d:=by
 induction h with
 | own hd h=>exact .own hd (hTU _ h)
 | of hd _ ho ih=>exact .of hd ih ho
theorem Aff.trans {l:List De} {T U:De->Prop} (hTU:∀ d,T d->Aff l U d) {d:De} (h:Aff l T d):Aff l U d:=by
 induction h with
 | own hd h=>exact hTU _ h
 | of hd _ ho ih=>exact .of hd ih ho
theorem kX {l:List De} (hs:Srt l) {i j:Nat} (hi:i < l.length) (hj:j < l.length) (h:l[i].1=l[j].1):i=j:=by
 rcases Nat.lt_trichotomy i j with q | q | q
 ·have:=aJd hs hj q;omega
 ·exact q
 ·have:=aJd hs hi q;omega
theorem aDk {l:List De} (hc:chk l=0) {T:De->Prop} {k:Nat} (hk:k < l.length):Aff l T l[k] ↔ T l[k]\/∃ j,∃ hj:j < l.length,j < k/\l[j].1 ∈ l[k].2.2/\Aff l T l[j]:=by
 have hs:=dS hc
 constructor
 ·intro h
  generalize hd:l[k]=d at h
  cases h with
  | own _ h=>exact .inl h
  | of _ he ho =>
   rename_i e hm
   subst hd
   obtain ⟨j,hj,q1,q2⟩:=aM9 (aWr hc hk _ ho)
   obtain ⟨i,hi,rfl⟩:=List.getElem_of_mem he.mem
   have:=kX hs hj hi q2
   subst this
   exact .inr ⟨j,hj,q1,ho,he⟩
 ·rintro (h | ⟨j,hj,_,ho,h⟩)
  ·exact .own (List.getElem_mem hk) h
  ·exact .of (List.getElem_mem hk) h ho
theorem aGp {l:List De} (hc:chk l=0) {T:De->Prop}:∀ (n k:Nat) (mp:MB),l.length - k=n->(∀ j (hj:j < l.length),j < k->(has mp l[j].1=true ↔ Aff l T l[j]))->(∀ j (hj:j < l.length),k <= j->(has mp l[j].1=true ↔ T l[j])) ->
  ∀ x,x ∈ clo (l.drop k) mp ↔ ∃ j,∃ hj:j < l.length,k <= j/\l[j].1=x/\Aff l T l[j]
 | 0,k,mp,hn,_,_,x=>by
  rw [List.drop_of_length_le (by omega)]
  constructor
  ·intro h;cases h
  ·rintro ⟨j,hj,q,_⟩;omega
 | n + 1,k,mp,hn,h1,h2,x=>by
  have hk:k < l.length:=by omega
  have hs:=dS hc
  have hdue:(has mp l[k].1 || l[k].2.2.any (has mp))=true ↔ Aff l T l[k]:=by
   rw [aDk hc hk,Bool.or_eq_true,List.any_eq_true (l:=l[k].2.2),h2 k hk (Nat.le_refl _)]
   constructor
   ·rintro (h | ⟨o,ho,h⟩)
    ·exact .inl h
    ·obtain ⟨j,hj,q1,q2⟩:=aM9 (aWr hc hk o ho)
     subst q2
     exact .inr ⟨j,hj,q1,ho,(h1 j hj q1).1 h⟩
   ·rintro (h | ⟨j,hj,q,ho,h⟩)
    ·exact .inl h
    ·exact .inr ⟨_,ho,(h1 j hj q).2 h⟩
  rw [List.drop_eq_getElem_cons hk,clo]
  cases hd:(has mp l[k].1 || l[k].2.2.any (has mp)) with
  | true =>
   have hA:=hdue.1 hd
   rw [if_pos rfl,List.mem_cons]
   have ih:=aGp hc (T:=T) n (k + 1) (bY mp l[k].1 true) (by omega) (fun j hj hjk=>by
    rw [nW]
    by_cases e:j=k
    ·subst e;rw [if_pos rfl];exact ⟨fun _=>hA,fun _=>rfl⟩
    ·rw [if_neg (fun q=>e (kX hs hj hk q))]
     exact h1 j hj (by omega)) (fun j hj hjk=>by
    rw [nW,if_neg (fun q=>by have:=kX hs hj hk q;omega)]
    exact h2 j hj (by omega)) x
   rw [ih]
   constructor
   ·rintro (rfl | ⟨j,hj,q,r⟩)
    ·exact ⟨k,hk,Nat.le_refl _,rfl,hA⟩
    ·exact ⟨j,hj,by omega,r⟩
   ·rintro ⟨j,hj,q,r1,r2⟩
    by_cases e:j=k
    ·subst e;exact .inl r1.symm
    ·exact .inr ⟨j,hj,by omega,r1,r2⟩
  | false =>
   have hA:¬ Aff l T l[k]:=fun q=>by rw [hdue.2 q] at hd;cases hd
   rw [if_neg Bool.false_ne_true]
   have ih:=aGp hc (T:=T) n (k + 1) mp (by omega) (fun j hj hjk=>by
    by_cases e:j=k
    ·subst e
     rw [Bool.or_eq_false_iff] at hd
     rw [hd.1]
     exact ⟨(by intro h;cases h),fun q=>absurd q hA⟩
    ·exact h1 j hj (by omega)) (fun j hj hjk=>h2 j hj (by omega)) x
   rw [ih]
   constructor
   ·rintro ⟨j,hj,q,r⟩;exact ⟨j,hj,by omega,r⟩
   ·rintro ⟨j,hj,q,r1,r2⟩
    have e:j ≠ k:=fun e=>by subst e;exact hA r2
    exact ⟨j,hj,by omega,r1,r2⟩
theorem aDu {l:List De} (hc:chk l=0) {mp:MB} {T:De->Prop} (hT:∀ j (hj:j < l.length),has mp l[j].1=true ↔ T l[j]) {x:Int}:x ∈ clo l mp ↔ ∃ j,∃ hj:j < l.length,l[j].1=x/\Aff l T l[j]:=by
 have:=aGp hc (T:=T) l.length 0 mp (by omega) (fun j _ h=>absurd h (Nat.not_lt_zero _)) (fun j hj _=>hT j hj) x
 rw [List.drop_zero] at this
 rw [this]
 constructor
 ·rintro ⟨j,hj,_,r⟩;exact ⟨j,hj,r⟩
 ·rintro ⟨j,hj,r⟩;exact ⟨j,hj,Nat.zero_le _,r⟩
theorem bFf {l:List De} (hc:chk l=0) {mp:MB} {T:De->Prop} (hT:∀ j (hj:j < l.length),has mp l[j].1=true ↔ T l[j]) {k:Nat} (hk:k < l.length):l[k].1 ∈ clo l mp ↔ Aff l T l[k]:=by
 rw [aDu hc hT]
 constructor
 ·rintro ⟨j,hj,q,r⟩
  have:=kX (dS hc) hj hk q
  subst this;exact r
 ·intro r;exact ⟨k,hk,rfl,r⟩
def TC (cs:List Ch) (d:De):Prop:=cs.any (tch d)=true
theorem aWi {l:List De} (hc:chk l=0) (cs:List Ch) (j:Nat) (hj:j < l.length):has (inM [] (aG0 cs l)) l[j].1=true ↔ TC cs l[j]:=by
 rw [aBp,Bool.or_eq_true,decide_eq_true_eq]
 unfold aG0 TC
 constructor
 ·rintro (h | h)
  ·simp [has,bL] at h
  ·obtain ⟨d,hd,e⟩:=List.mem_map.1 h
   obtain ⟨hd,ht⟩:=List.mem_filter.1 hd
   obtain ⟨i,hi,rfl⟩:=List.getElem_of_mem hd
   have:=kX (dS hc) hi hj e
   subst this;exact ht
 ·intro h
  exact .inr (List.mem_map.2 ⟨_,List.mem_filter.2 ⟨List.getElem_mem hj,h⟩,rfl⟩)
theorem aDf {l:List De} (hc:chk l=0) {T:De->Prop}:∀ (k:Nat) (need:MB),k <= l.length->((∃ e ∈ ndl (l.take k).reverse need,T e) ↔ ∃ j,∃ hj:j < l.length,j < k/\has need l[j].1=true/\Aff l T l[j])
 | 0,need,_=>by
  constructor
  ·rintro ⟨e,he,_⟩;simp [ndl] at he
  ·rintro ⟨j,_,h,_⟩;omega
 | k + 1,need,hk=>by
  have hk':k < l.length:=by omega
  have hrev:(l.take (k + 1)).reverse=l[k] :: (l.take k).reverse:=by rw [<- List.take_append_getElem hk',List.reverse_append];rfl
  rw [hrev,ndl]
  by_cases h:has need l[k].1=true
  ·rw [if_pos h]
   have ih:=aDf hc (T:=T) k (inM need l[k].2.2) (by omega)
   constructor
   ·rintro ⟨e,he,ht⟩
    rcases List.mem_cons.1 he with rfl | he
    ·exact ⟨k,hk',by omega,h,.own (List.getElem_mem hk') ht⟩
    ·obtain ⟨j,hj,q1,q2,q3⟩:=ih.1 ⟨e,he,ht⟩
     rw [aBp,Bool.or_eq_true,decide_eq_true_eq] at q2
     rcases q2 with q2 | q2
     ·exact ⟨j,hj,by omega,q2,q3⟩
     ·exact ⟨k,hk',by omega,h,.of (List.getElem_mem hk') q3 q2⟩
   ·rintro ⟨j,hj,q1,q2,q3⟩
    by_cases e:j=k
    ·subst e
     rcases (aDk hc hj).1 q3 with q3 | ⟨i,hi,r1,r2,r3⟩
     ·exact ⟨_,List.mem_cons_self,q3⟩
     ·obtain ⟨e,he,ht⟩:=ih.2 ⟨i,hi,r1,by rw [aBp,Bool.or_eq_true,decide_eq_true_eq];exact .inr r2,r3⟩
      exact ⟨e,List.mem_cons_of_mem _ he,ht⟩
    ·obtain ⟨e,he,ht⟩:=ih.2 ⟨j,hj,by omega,by rw [aBp,q2];rfl,q3⟩
     exact ⟨e,List.mem_cons_of_mem _ he,ht⟩
  ·rw [if_neg h]
   have ih:=aDf hc (T:=T) k need (by omega)
   rw [ih]
   constructor
   ·rintro ⟨j,hj,q,r⟩;exact ⟨j,hj,by omega,r⟩
   ·rintro ⟨j,hj,q1,q2,q3⟩
    have e:j ≠ k:=fun e=>by subst e;exact h q2
    exact ⟨j,hj,by omega,q2,q3⟩
theorem bFe {l:List De} (hs:Srt l) {k:Nat} (hk:k < l.length):cnt l l[k].1=k:=by
 obtain ⟨h,e⟩:=(aBe hs).2 (List.mem_map.2 ⟨l[k],List.getElem_mem hk,rfl⟩)
 exact kX hs h hk e
theorem aTc {l:List De} (hc:chk l=0) {T:De->Prop} {k:Nat} (hk:k < l.length):(∃ e ∈ nL l l[k].1,T e) ↔ Aff l T l[k]:=by
 have hs:=dS hc
 unfold nL
 rw [bFe hs hk,aDf hc (k + 1) _ (by omega)]
 constructor
 ·rintro ⟨j,hj,_,q,r⟩
  rw [nW] at q
  split at q
  ·rename_i e
   have:=kX hs hj hk e
   subst this;exact r
  ·simp [has,bL] at q
 ·intro r
  exact ⟨k,hk,by omega,by rw [nW,if_pos rfl],r⟩
theorem bF5 {k:Int} (h:(bits .andNot .i64 k 15)=0):(BitVec.ofInt 64 k).toNat <= 15:=by
 have h:IntKind.wrap .i64 ((BitVec.ofInt 64 k &&& ~~~(BitVec.ofInt 64 15)).toNat:Int)=0:=h
 rw [IntKind.wrap_i64] at h
 generalize BitVec.ofInt 64 k=a at h |-
 have e15:BitVec.ofInt 64 15=15#64:=by decide
 rw [e15] at h
 have hlt:=(a &&& ~~~15#64).isLt
 have h0:(a &&& ~~~15#64).toNat=0:=by omega
 have hz:a &&& ~~~15#64=0#64:=BitVec.eq_of_toNat_eq (by rw [h0];rfl)
 have ha:a=a &&& 15#64:=by
  have:(a &&& 15#64) ||| (a &&& ~~~15#64)=a:=by
   ext i hi
   simp only [BitVec.getElem_or,BitVec.getElem_and,BitVec.getElem_not]
   cases a[i] <;> cases (15#64)[i] <;> rfl
  rw [hz,BitVec.or_zero] at this
  exact this.symm
 rw [ha,BitVec.toNat_and]
 exact Nat.and_le_right
def aBn (l:List De) (id:Int):List Int × Int:=if chk l=0 then if id ∈ ids l then ((clo l (bY [] id true)).drop 1,0) else ([],8) else ([],chk l)
theorem aJ6 {l:List De} (hc:chk l=0) {k:Nat} (hk:k < l.length) (j:Nat) (hj:j < l.length):has (bY [] l[k].1 true) l[j].1=true ↔ l[j]=l[k]:=by
 rw [nW]
 constructor
 ·intro h
  split at h
  ·rename_i e
   have:=kX (dS hc) hj hk e
   subst this;rfl
  ·simp [has,bL] at h
 ·intro e
  rw [e,if_pos rfl]
theorem zZ:∀ (l:List De) (mp:MB),(clo l mp).length <= l.length
 | [],_=>Nat.le_refl _
 | d :: r,mp=>by
  unfold clo
  split
  ·have:=zZ r (bY mp d.1 true);simp;omega
  ·have:=zZ r mp;simp;omega
theorem aJc:∀ (l:List De) (mp:MB),(clo l mp).Sublist (ids l)
 | [],_=>List.Sublist.refl _
 | d :: r,mp=>by
  unfold clo
  split
  ·exact (aJc r _).cons_cons _
  ·exact (aJc r _).cons _
theorem aJv {l:List De} (hs:Srt l) (mp:MB):(clo l mp).Pairwise (· < ·):=List.Pairwise.sublist (aJc l mp) hs
theorem aY9 {l:List De} (hc:chk l=0) {k:Nat} (hk:k < l.length):∀ (j:Nat) (hj:j < l.length),Aff l (·=l[k]) l[j]->k <= j:=by
 intro j
 induction j using Nat.strongRecOn with
 | _ j ih =>
  intro hj h
  rcases (aDk hc hj).1 h with h | ⟨i,hi,q,_,r⟩
  ·have:=kX (dS hc) hj hk (by rw [h]);omega
  ·have:=ih i q hi r;omega
theorem aSq {l:List De} (hc:chk l=0) {k:Nat} (hk:k < l.length):clo l (bY [] l[k].1 true)=l[k].1 :: (clo l (bY [] l[k].1 true)).drop 1:=by
 have hs:=dS hc
 have hm:l[k].1 ∈ clo l (bY [] l[k].1 true):=(bFf hc (T:=(·=l[k])) (aJ6 hc hk) hk).2 (.own (List.getElem_mem hk) rfl)
 have hp:=aJv hs (bY [] l[k].1 true)
 have hall:∀ x ∈ clo l (bY [] l[k].1 true),l[k].1 <= x:=fun x hx=>by
  obtain ⟨j,hj,rfl,r⟩:=(aDu hc (T:=(·=l[k])) (aJ6 hc hk)).1 hx
  have:=aY9 hc hk j hj r
  rcases Nat.lt_or_ge k j with q | q
  ·have:=aJd hs hj q;omega
  ·have:j=k:=by omega
   subst this;exact Int.le_refl _
 generalize clo l (bY [] l[k].1 true)=c at *
 cases c with
 | nil=>cases hm
 | cons x r =>
  have h1:=hall x List.mem_cons_self
  have h2:x=l[k].1:=by
   rcases List.mem_cons.1 hm with e | e
   ·exact e.symm
   ·have:=List.rel_of_pairwise_cons hp e;omega
  rw [h2];rfl
theorem aXf {N:Nat} {l:List De} (hf:Few N l) (hl:l.length <= 17592186044415) (id:Int):dE N l id=some (aBn l id):=by
 unfold dE aBn
 rw [qK hf]
 simp only [aL]
 by_cases h:chk l=0
 ·have hs:=dS h
  rw [h,aYm hs hf.big hf.len,if_pos rfl]
  simp only [bne_self_eq_false,aC,aL]
  by_cases hid:id ∈ ids l
  ·rw [decide_eq_true hid,if_pos hid,oG,aG,aF3 hf hl]
   simp only [aL]
   obtain ⟨d,hd,rfl⟩:=List.mem_map.1 hid
   obtain ⟨k,hk,rfl⟩:=List.getElem_of_mem hd
   have hlen:1 <= (clo l (bY [] l[k].1 true)).length:=by rw [aSq h hk];simp
   rw [aO hlen,aO (Nat.le_refl _),aO (by omega),List.take_of_length_le (by simp)]
  ·rw [decide_eq_false hid,if_neg hid,oG,aC]
 ·rw [if_neg h,show (chk l != 0)=true by simpa using h];rfl
theorem aTb {N:Nat} {l:List Rd} (hl:l.length <= 4398046511104):cY N l=some l:=by
 unfold cY
 cases l with
 | nil=>rfl
 | cons a r =>
  have hp:0 < (a :: r).length:=by simp
  rw [decide_eq_true hp,aG,aO (by omega),aR]
theorem aS7 {N:Nat} {l:List De} (hl:l.length <= 2199023255552):bQ N l=some l:=by
 unfold bQ
 cases l with
 | nil=>rfl
 | cons a r =>
  have hp:0 < (a :: r).length:=by simp
  rw [decide_eq_true hp,aG,aO (by omega),aR]
def wN (l:List De) (d:De):Bool:=match l.getLast? with
 | none=>false
 | some e=>decide (d.1 <= e.1)
def aG2 (l:List De) (d:De):Int × List De:=if chk l=0 then if cR d=true then if wN l d=true then (9,[]) else if (d.2.2.all fun i=>decide (i ∈ ids l))=true then if 2000 <= l.length then (2,[]) else (0,l ++ [d]) else (8,[]) else (1,[]) else (chk l,[])
theorem bE0 {N:Nat} {l:List De} {d:De} (hf:Few N l) (hl:l.length <= 1000000) (hr:d.2.1.length <= 1000000) (ho:d.2.2.length <= 1000000) (h1:d.2.1.length < N) (h2:d.2.2.length < N):dN N l d=some (aG2 l d):=by
 unfold dN aG2
 rw [qK hf]
 simp only [aL]
 by_cases h:chk l=0
 ·have hs:=dS h
  rw [h,if_pos rfl,show bK N (d.1,(d.2.1,d.2.2))=some (cR d) from aK8 (d:=d) (by omega) (by omega) h1 h2]
  simp only [bne_self_eq_false,aC,aL,oG]
  by_cases hb:cR d=true
  ·rw [hb,aG,if_pos rfl]
   have e1:(if? (decide (((l.length:Nat):Int) > 0)) (ck .i64 ((((l.length:Nat):Int) - 1)) (aT l ((((l.length:Nat):Int) - 1)) fun x5=>some (l,decide (d.1 <= x5.1),d.1,d.2.1,d.2.2))) (some (l,false,d.1,d.2.1,d.2.2)))=some (l,wN l d,d.1,d.2.1,d.2.2):=by
    unfold wN
    by_cases hp:0 < l.length
    ·rw [decide_eq_true (show ((l.length:Nat):Int) > 0 by omega),aG,bV (by omega) (by omega),tI (x:=l[l.length - 1]) (by omega) (by rw [show (((l.length:Nat):Int) - 1).toNat=l.length - 1 by omega];exact bU (by omega)),List.getLast?_eq_getElem?,bU (show l.length - 1 < l.length by omega)]
    ·have:l=[]:=List.eq_nil_of_length_eq_zero (by omega)
     subst this;rfl
   rw [e1]
   simp only [aL]
   cases wN l d with
   | true=>rfl
   | false =>
    rw [aC,if_neg Bool.false_ne_true,aLo hs hf.big hf.len (by omega) h2]
    simp only [aL,oG]
    cases (d.2.2.all fun i=>decide (i ∈ ids l)) with
    | false=>rfl
    | true =>
     rw [aG,if_pos rfl]
     by_cases h20:2000 <= l.length
     ·rw [decide_eq_true (show ((l.length:Nat):Int) ≥ 2000 by omega),if_pos h20];rfl
     ·rw [decide_eq_false (show ¬ ((l.length:Nat):Int) ≥ 2000 by omega),if_neg h20,aC,aTb (by omega),aUk (by omega),aS7 (by omega)]
      simp only [aL,aR]
      rw [aO (by simp only [List.length_cons,List.length_nil];omega)]
  ·rw [if_neg hb]
   have:cR d=false:=by simpa using hb
   rw [this];rfl
 ·rw [if_neg h,show (chk l != 0)=true by simpa using h];rfl
def tot:MP->Nat
 | []=>0
 | e :: r=>e.2.length + tot r
theorem aQm:∀ (mp:MP) (k:Arr 2) (x:Tk),tot (bY mp k ((bL mp k).getD [] ++ [x]))=tot mp + 1
 | [],k,x=>by simp [bY,bL,tot]
 | e :: r,k,x=>by
  unfold bY bL
  by_cases h:e.1=k
  ·rw [if_pos h,if_pos h]
   simp [tot];omega
  ·rw [if_neg h,if_neg h,tot,aQm r k x,tot];omega
theorem zC (mp:MP) (x:Rd) (j:Nat):tot (qM mp x j) <= tot mp + 1:=by
 unfold qM
 split
 ·rw [aQm];exact Nat.le_refl _
 ·omega
theorem aK3:∀ (rs:List Rd) (mp:MP),tot (rs.foldl wZ mp) <= tot mp + 4 * rs.length
 | [],_=>by simp
 | x :: r,mp=>by
  have h:=aK3 r (wZ mp x)
  have h1:=zC mp x 0
  have h2:=zC (qM mp x 0) x 1
  have h3:=zC (qM (qM mp x 0) x 1) x 2
  have h4:=zC (qM (qM (qM mp x 0) x 1) x 2) x 3
  rw [List.foldl_cons,List.length_cons]
  unfold wZ at h
  unfold wZ
  omega
theorem aNw:∀ (mp:MP),(mp.flatMap fun e=>sT e.1 e.2).length <= tot mp
 | []=>Nat.le_refl _
 | e :: r=>by
  have:=aBb e.1 e.2
  have:=aNw r
  rw [List.flatMap_cons,List.length_append,tot];omega
theorem aNj {α β:Type} {f g:α->List β}:∀ {l:List α},(∀ x ∈ l,f x=g x)->l.flatMap f=l.flatMap g
 | [],_=>rfl
 | x :: l,h=>by rw [List.flatMap_cons,List.flatMap_cons,h x List.mem_cons_self,aNj fun y hy=>h y (List.mem_cons_of_mem _ hy)]
theorem aPn {mp:MP} (h:(xX mp).Nodup):oX mp (xX mp)=mp.flatMap fun e=>sT e.1 e.2:=by
 unfold oX xX
 rw [List.flatMap_map]
 exact aNj fun e he=>by rw [aJ2 h he];rfl
theorem aZm {l:List De} {R:Nat} (hR:∀ d ∈ l,d.2.1.length <= R) (id:Int):(rds l id).length <= 4 * (l.length * R):=by
 unfold rds
 rw [(iA _ _).length_eq,aPn (xQ l id)]
 have h:=aNw (vO l id)
 rw [aDe] at h |-
 have h1:=aK3 ((nL l id).flatMap (·.2.1)) []
 have h2:((nL l id).flatMap (·.2.1)).length <= (nL l id).length * R:=pM fun d hd=>hR d (vG hd)
 have h3:(nL l id).length <= l.length:=by
  have:=aAj (l.take (cnt l id + 1)).reverse (bY [] id true)
  rw [List.length_reverse,List.length_take] at this
  unfold nL;omega
 have h4:=Nat.mul_le_mul_right R h3
 have h5:tot ([]:MP)=0:=rfl
 omega
theorem aQj {i j:Nat} (hi:i <= 3) (hj:j <= 3) (h:(1 * 2 ^ i:Int)=1 * 2 ^ j):i=j:=by
 match i,j,hi,hj with
 | 0,0,_,_=>rfl
 | 1,1,_,_=>rfl
 | 2,2,_,_=>rfl
 | 3,3,_,_=>rfl
 | 0,1,_,_=>exact absurd h (by decide)
 | 0,2,_,_=>exact absurd h (by decide)
 | 0,3,_,_=>exact absurd h (by decide)
 | 1,0,_,_=>exact absurd h (by decide)
 | 1,2,_,_=>exact absurd h (by decide)
 | 1,3,_,_=>exact absurd h (by decide)
 | 2,0,_,_=>exact absurd h (by decide)
 | 2,1,_,_=>exact absurd h (by decide)
 | 2,3,_,_=>exact absurd h (by decide)
 | 3,0,_,_=>exact absurd h (by decide)
 | 3,1,_,_=>exact absurd h (by decide)
 | 3,2,_,_=>exact absurd h (by decide)
theorem aHs {l:List Int} {lo hi:Int} (hl:l.length <= 4611686018427387904):∀ (m k:Nat),k <= l.length->l.length - k < m ->
  ∃ b,kL m l lo hi (k:Int)=some b/\(b=true ↔ ∀ i (h:i < l.length),k <= i->lo <= l[i]/\l[i] < hi/\(0 < i->l[i - 1] < l[i]))
 | 0,_,_,h=>absurd h (Nat.not_lt_zero _)
 | m + 1,k,h1,h=>by
  show ∃ b,kT (kL m) l lo hi _=some b/\_
  unfold kT
  by_cases hlt:k < l.length
  ·have hd:∃ f:Bool,(aT l (k:Int) fun x9=>if? (decide (x9 < lo)) (some (l,lo,hi,(k:Int),true)) (aT l (k:Int) fun x10=>if? (decide (x10 ≥ hi)) (some (l,lo,hi,(k:Int),true)) (if? (decide ((k:Int) > 0)) (aT l (k:Int) fun x11=>ck .i64 (((k:Int) - 1)) (aT l (((k:Int) - 1)) fun x12=>some (l,lo,hi,(k:Int),decide (x11 <= x12)))) (some (l,lo,hi,(k:Int),false)))))=some (l,lo,hi,(k:Int),f)/\(f=false ↔ lo <= l[k]/\l[k] < hi/\(0 < k->l[k - 1] < l[k])):=by
    simp only [bM (bU hlt)]
    by_cases c1:l[k] < lo
    ·exact ⟨true,by rw [decide_eq_true c1];rfl,⟨(by intro h;cases h),fun h=>by omega⟩⟩
    ·rw [decide_eq_false c1,aC]
     by_cases c2:l[k] ≥ hi
     ·exact ⟨true,by rw [decide_eq_true c2];rfl,⟨(by intro h;cases h),fun h=>by omega⟩⟩
     ·rw [decide_eq_false c2,aC]
      by_cases c3:0 < k
      ·rw [decide_eq_true (show (k:Int) > 0 by omega),aG,bV (by omega) (by omega),tI (x:=l[k - 1]) (by omega) (by rw [show ((k:Int) - 1).toNat=k - 1 by omega];exact bU (by omega))]
       exact ⟨_,rfl,⟨fun h=>⟨by omega,by omega,fun _=>by have:=of_decide_eq_false h;omega⟩,fun h=>decide_eq_false (by have:=h.2.2 c3;omega)⟩⟩
      ·rw [decide_eq_false (show ¬ (k:Int) > 0 by omega),aC]
       exact ⟨false,rfl,⟨fun _=>⟨by omega,by omega,fun q=>absurd q c3⟩,fun _=>rfl⟩⟩
   obtain ⟨f,e1,e2⟩:=hd
   rw [fX hlt,aG,e1]
   simp only [aL]
   cases f with
   | true=>exact ⟨false,rfl,⟨(by intro h;cases h),fun h=>by have:=e2.2 (h k hlt (Nat.le_refl _));cases this⟩⟩
   | false =>
    obtain ⟨b,i1,i2⟩:=aHs (lo:=lo) (hi:=hi) hl m (k + 1) (by omega) (by omega)
    refine ⟨b,by rw [aC,bV (by omega) (by omega),show ((k:Int) + 1)=((k + 1:Nat):Int) by omega];exact i1,i2.trans ⟨fun q i h hi=>?_,fun q i h hi=>q i h (by omega)⟩⟩
    by_cases e:i=k
    ·subst e;exact e2.1 rfl
    ·exact q i h (by omega)
  ·exact ⟨true,by rw [gI hlt,aC],⟨fun _ i h hi=>by omega,fun _=>rfl⟩⟩
theorem aZk {N:Nat} {l:List Int} {lo hi:Int} (hl:l.length <= 4611686018427387904) (hN:l.length < N):∃ b,nB N l lo hi=some b/\(b=true ↔ ∀ i (h:i < l.length),lo <= l[i]/\l[i] < hi/\(0 < i->l[i - 1] < l[i])):=by
 obtain ⟨b,e1,e2⟩:=aHs (lo:=lo) (hi:=hi) hl N 0 (Nat.zero_le _) (by omega)
 exact ⟨b,e1,e2.trans ⟨fun q i h=>q i h (Nat.zero_le _),fun q i h _=>q i h⟩⟩
theorem aRg {l:List Int}:asc l=true ↔ ∀ i (h:i < l.length),0 < i->l[i - 1] < l[i]:=by
 rw [aDn]
 constructor
 ·intro h i hi h0
  exact List.pairwise_iff_getElem.1 h (i - 1) i (by omega) hi (by omega)
 ·intro h
  rw [List.pairwise_iff_getElem]
  intro i j hi hj hij
  induction j with
  | zero=>omega
  | succ j ih =>
   have h1:=h (j + 1) hj (by omega)
   simp only [Nat.add_sub_cancel] at h1
   rcases Nat.lt_or_ge i j with q | q
   ·have:=ih (by omega) q;omega
   ·have:i=j:=by omega
    subst this;exact h1
theorem bBo {id:Int} {l:List Int}:(asc l=true/\aL1 id l=true) ↔ ∀ i (h:i < l.length),1 <= l[i]/\l[i] < id/\(0 < i->l[i - 1] < l[i]):=by
 rw [aRg]
 constructor
 ·rintro ⟨h1,h2⟩
  have hp:=aDn.1 (aRg.2 h1)
  intro i hi
  refine ⟨?_,?_,h1 i hi⟩
  ·cases l with
   | nil=>cases hi
   | cons a r =>
    unfold aL1 at h2
    rw [Bool.and_eq_true,decide_eq_true_eq] at h2
    rcases Nat.eq_zero_or_pos i with e | e
    ·subst e;exact h2.1
    ·have:=List.pairwise_iff_getElem.1 hp 0 i (by omega) hi e
     have h0:(a :: r)[0]=a:=rfl
     omega
  ·cases l with
   | nil=>cases hi
   | cons a r =>
    unfold aL1 at h2
    rw [Bool.and_eq_true,decide_eq_true_eq,decide_eq_true_eq,List.getLast_eq_getElem] at h2
    rcases Nat.lt_or_ge i ((a :: r).length - 1) with e | e
    ·have:=List.pairwise_iff_getElem.1 hp i ((a :: r).length - 1) hi (by omega) e
     omega
    ·have e2:i=(a :: r).length - 1:=by omega
     subst e2;exact h2.2
 ·intro h
  refine ⟨fun i hi h0=>(h i hi).2.2 h0,?_⟩
  cases l with
  | nil=>rfl
  | cons a r =>
   unfold aL1
   rw [Bool.and_eq_true,decide_eq_true_eq,decide_eq_true_eq,List.getLast_eq_getElem]
   exact ⟨(h 0 (by simp)).1,(h _ (by simp)).2.1⟩
def kOk (l:List De):Prop:=∀ d ∈ l,∀ x ∈ d.2.1,x.2.1 <= 9223372036854775807
theorem bFl {k:Int} (h:k <= 9223372036854775807):(k < 1\/k > 15) ↔ (k <= 0\/((bits .andNot .i64 k 15) != 0)=true):=by
 constructor
 ·rintro (q | q)
  ·exact .inl (by omega)
  ·refine .inr ?_
   rw [bne_iff_ne]
   intro e
   have:=bF5 e
   rw [BitVec.toNat_ofInt] at this
   simp only [Nat.reducePow,Int.reducePow] at this
   omega
 ·rintro (q | q)
  ·exact .inl (by omega)
  ·rw [bne_iff_ne] at q
   apply Classical.byContradiction
   intro hn
   have hn:1 <= k/\k <= 15:=by omega
   have key:∀ n < 16,(bits .andNot .i64 ((n:Nat):Int) 15)=0:=by decide
   have:=key k.toNat (by omega)
   rw [show ((k.toNat:Nat):Int)=k by omega] at this
   exact q this
theorem aCp {N:Nat} {id:Int} {rs:List Rd} {of:List Int} (hr:rs.length <= 4611686018427387904) (ho:of.length <= 4611686018427387904) (hoN:of.length < N) (hk:∀ x ∈ rs,x.2.1 <= 9223372036854775807):∀ (m k:Nat),k <= rs.length->rs.length - k < m ->
  iS N m (k:Int) id rs of=some (!(rs.drop k).any aG3 && (asc of && aL1 id of))
 | 0,_,_,h=>absurd h (Nat.not_lt_zero _)
 | m + 1,k,h1,h=>by
  show nG N (iS N m) _ id rs of=_
  unfold nG
  by_cases hlt:k < rs.length
  ·rw [fX hlt,aG,bM (bU hlt),List.drop_eq_getElem_cons hlt,List.any_cons]
   have hkk:=hk _ (List.getElem_mem hlt)
   generalize hx:rs[k]=x at hkk
   have main:(if? (decide (x.1 < 0)) (some ((k:Int),true,id,rs,of)) (if? (decide (x.1 > 39)) (some ((k:Int),true,id,rs,of)) (if? (decide (x.2.2.1 < 0)) (some ((k:Int),true,id,rs,of)) (if? (decide (x.2.2.1 ≥ x.2.2.2)) (some ((k:Int),true,id,rs,of)) (if? (decide (x.2.2.2 > 1402560)) (some ((k:Int),true,id,rs,of)) (if? (decide (x.2.1 < 1)) (some ((k:Int),true,id,rs,of)) (some ((k:Int),decide (x.2.1 > 15),id,rs,of))))))))=some ((k:Int),aG3 x,id,rs,of):=by
    have e1:decide (x.1 > 39)=decide (x.1 ≥ 40):=decide_eq_decide.2 (by omega)
    have e2:decide (x.2.2.1 ≥ x.2.2.2)=decide (x.2.2.2 <= x.2.2.1):=rfl
    have e3:(decide (x.2.1 < 1) || decide (x.2.1 > 15))=(decide (x.2.1 <= 0) || (bits .andNot .i64 x.2.1 15) != 0):=by
     rw [Bool.eq_iff_iff,Bool.or_eq_true,Bool.or_eq_true,decide_eq_true_eq,decide_eq_true_eq,decide_eq_true_eq]
     exact bFl hkk
    have e4:aG3 x=(decide (x.1 < 0) || decide (x.1 > 39) || decide (x.2.2.1 < 0) || decide (x.2.2.1 ≥ x.2.2.2) || decide (x.2.2.2 > 1402560) || (decide (x.2.1 < 1) || decide (x.2.1 > 15))):=by
     rw [e3,e1,e2,<- Bool.or_assoc];rfl
    rw [e4]
    cases decide (x.1 < 0) <;> cases decide (x.1 > 39) <;> cases decide (x.2.2.1 < 0) <;> cases decide (x.2.2.1 ≥ x.2.2.2) <;> cases decide (x.2.2.2 > 1402560) <;> cases decide (x.2.1 < 1) <;> rfl
   rw [main]
   simp only [aL]
   cases hb:aG3 x with
   | true=>rfl
   | false =>
    rw [aC,bV (by omega) (by omega),show ((k:Int) + 1)=((k + 1:Nat):Int) by omega,aCp hr ho hoN hk m (k + 1) (by omega) (by omega)]
    rfl
  ·rw [gI hlt,aC,List.drop_of_length_le (by omega)]
   obtain ⟨b,e1,e2⟩:=aZk (N:=N) (lo:=1) (hi:=id) ho hoN
   rw [e1]
   simp only [aL,List.any_nil,Bool.not_false,Bool.true_and]
   rw [Option.some.injEq,Bool.eq_iff_iff,e2,Bool.and_eq_true]
   exact bBo.symm
theorem aH0 {N:Nat} {d:De} (hr:d.2.1.length <= 4611686018427387904) (ho:d.2.2.length <= 4611686018427387904) (h1:d.2.1.length < N) (h2:d.2.2.length < N) (hk:∀ x ∈ d.2.1,x.2.1 <= 9223372036854775807):eH N d=some (cR d):=by
 unfold eH cR
 have hl:=aCp (N:=N) (id:=d.1) (of:=d.2.2) hr ho h2 hk N 0 (Nat.zero_le _) (by omega)
 rw [List.drop_zero] at hl
 have hl:iS N N 0 d.1 d.2.1 d.2.2=_:=hl
 cases decide (d.1 < 1) <;> cases decide (d.1 > 1099511627776) <;> cases decide ((d.2.1.length:Int) > 40) <;> simp only [aC,aG,aL,hl] <;> cases asc d.2.2 <;> simp
theorem aLm {l:List De} {id:Int} (hl:l.length <= 4611686018427387904):∀ (m k:Nat),k <= l.length->l.length - k < m ->
  ∃ v:Int,rE m l id (k:Int)=some v/\((v=-1/\id ∉ ids (l.drop k))\/∃ j,∃ h:j < l.length,k <= j/\v=(j:Int)/\l[j].1=id)
 | 0,_,_,h=>absurd h (Nat.not_lt_zero _)
 | m + 1,k,h1,h=>by
  show ∃ v:Int,rW (rE m) l id _=some v/\_
  unfold rW
  by_cases hlt:k < l.length
  ·rw [fX hlt,aG,bM (bU hlt)]
   by_cases e:l[k].1=id
   ·rw [show (l[k].1 == id)=true by simpa using e,aG]
    exact ⟨_,rfl,.inr ⟨k,hlt,Nat.le_refl _,rfl,e⟩⟩
   ·rw [show (l[k].1 == id)=false by simpa using e,aC,bV (by omega) (by omega),show ((k:Int) + 1)=((k + 1:Nat):Int) by omega]
    obtain ⟨v,i1,i2⟩:=aLm (id:=id) hl m (k + 1) (by omega) (by omega)
    refine ⟨v,i1,?_⟩
    rcases i2 with ⟨q1,q2⟩ | ⟨j,hj,q,r⟩
    ·refine .inl ⟨q1,fun q=>?_⟩
     rw [List.drop_eq_getElem_cons hlt,ids,List.map_cons] at q
     rcases List.mem_cons.1 q with q | q
     ·exact e q.symm
     ·exact q2 q
    ·exact .inr ⟨j,hj,by omega,r⟩
  ·exact ⟨-1,by rw [gI hlt,aC],.inl ⟨rfl,by rw [List.drop_of_length_le (by omega)];exact List.not_mem_nil⟩⟩
theorem aO0 {N:Nat} {l:List De} {id:Int} (hl:l.length <= 4611686018427387904) (hN:l.length < N) :
  ∃ v:Int,oI N l id=some v/\((v=-1/\id ∉ ids l)\/∃ j,∃ h:j < l.length,v=(j:Int)/\l[j].1=id):=by
 obtain ⟨v,e1,e2⟩:=aLm (id:=id) hl N 0 (Nat.zero_le _) (by omega)
 refine ⟨v,e1,?_⟩
 rcases e2 with e2 | ⟨j,hj,_,r⟩
 ·exact .inl e2
 ·exact .inr ⟨j,hj,r⟩
theorem aB7 {N:Nat} {l:List De} (hl:l.length <= 4611686018427387904) (hN:l.length < N) {is:List Int} (hi:is.length <= 4611686018427387904):∀ (m k:Nat),k <= is.length->is.length - k < m ->
  nH N m l is (k:Int)=some ((is.drop k).all fun i=>decide (i ∈ ids l))
 | 0,_,_,h=>absurd h (Nat.not_lt_zero _)
 | m + 1,k,h1,h=>by
  show mU N (nH N m) l is _=_
  unfold mU
  by_cases hlt:k < is.length
  ·obtain ⟨v,e1,e2⟩:=aO0 (id:=is[k]) hl hN
   rw [fX hlt,aG,bM (bU hlt),e1,List.drop_eq_getElem_cons hlt,List.all_cons]
   simp only [aL]
   rcases e2 with ⟨rfl,q⟩ | ⟨j,hj,rfl,q⟩
   ·rw [decide_eq_true (by omega),decide_eq_false q];rfl
   ·have hm:is[k] ∈ ids l:=List.mem_map.2 ⟨_,List.getElem_mem hj,q⟩
    rw [decide_eq_false (by omega),decide_eq_true hm,aC,bV (by omega) (by omega),show ((k:Int) + 1)=((k + 1:Nat):Int) by omega,aB7 hl hN hi m (k + 1) (by omega) (by omega)]
    rfl
  ·rw [gI hlt,aC,List.drop_of_length_le (by omega)];rfl
theorem aG5 {N:Nat} {l:List De} (hl:l.length <= 4611686018427387904) (hN:l.length < N) {is:List Int} (hi:is.length <= 4611686018427387904) (hN2:is.length < N):fS N l is=some (is.all fun i=>decide (i ∈ ids l)):=by
 unfold fS
 have:=aB7 hl hN hi N 0 (Nat.zero_le _) (by omega)
 rw [List.drop_zero] at this
 exact this
theorem aCo {N:Nat} {l:List De} (hf:Few N l) (hk:kOk l):∀ (m k:Nat),k <= l.length->l.length - k < m ->
  mP N m l (k:Int)=some (if okL (l.take k) (l.drop k)=true then 0 else 1)
 | 0,_,_,h=>absurd h (Nat.not_lt_zero _)
 | m + 1,k,h1,h=>by
  show mX N (mP N m) l _=_
  unfold mX
  have hbig:=hf.big
  have hlen:=hf.len
  by_cases hlt:k < l.length
  ·have hm:=List.getElem_mem hlt
   have hd:=hf.rd _ hm
   have ho:=hf.of _ hm
   have htk:(l.take k).length=k:=by rw [List.length_take];omega
   have hr:eH N (l[k].1,(l[k].2.1,l[k].2.2))=some (cR l[k]):=aH0 (d:=l[k]) hd.2 ho.2 hd.1 ho.1 (hk _ hm)
   have hkn:fS N (List.take ((k:Int).toNat - 0) (List.drop 0 l)) l[k].2.2=some (l[k].2.2.all fun i=>decide (i ∈ ids (l.take k))):=by
    rw [show (k:Int).toNat - 0=k by omega,List.drop_zero]
    exact aG5 (by omega) (by omega) ho.2 ho.1
   rw [fX hlt,aG,bM (bU hlt),hr]
   simp only [aL]
   rw [aO (by omega),aO (by omega),aO (by omega),bM (bU hlt),hkn,List.drop_eq_getElem_cons hlt,okL]
   simp only [aL]
   have main:(if? (!cR l[k]) (some (l,(k:Int),true)) (if? (!(l[k].2.2.all fun i=>decide (i ∈ ids (l.take k)))) (some (l,(k:Int),true)) (if? (decide ((k:Int) > 0)) (aT l (k:Int) fun x9=>ck .i64 ((k:Int) - 1) (aT l ((k:Int) - 1) fun x10=>some (l,(k:Int),decide (x9.1 <= x10.1)))) (some (l,(k:Int),false)))))=some (l,(k:Int),!okD (l.take k) l[k]):=by
    unfold okD
    by_cases hk0:k=0
    ·subst hk0
     cases cR l[0] <;> cases (l[0].2.2.all fun i=>decide (i ∈ ids (l.take 0))) <;> rfl
    ·have e1:((k:Int) - 1).toNat=k - 1:=by omega
     have e2:(l.take k).getLast?=some l[k - 1]:=by
      rw [List.getLast?_eq_getElem?,htk,List.getElem?_take_of_lt (by omega),bU (by omega)]
     rw [decide_eq_true (show (k:Int) > 0 by omega),aG,bM (bU hlt),bV (by omega) (by omega),tI (by omega) (by rw [e1];exact bU (by omega)),e2]
     cases cR l[k] <;> cases (l[k].2.2.all fun i=>decide (i ∈ ids (l.take k))) <;> simp
   rw [main]
   simp only [aL]
   cases hok:okD (l.take k) l[k] with
   | false=>rfl
   | true =>
    show if? (!true) _ _=_
    rw [oG,aG,bV (by omega) (by omega),show ((k:Int) + 1)=((k + 1:Nat):Int) by omega,Bool.true_and,List.take_append_getElem hlt]
    exact aCo hf hk m (k + 1) (by omega) (by omega)
  ·rw [gI hlt,aC,List.drop_of_length_le (by omega)];rfl
theorem nZ {N:Nat} {l:List De} (hf:Few N l) (hk:kOk l):dP N l=some (chk l):=by
 unfold dP chk
 by_cases h:l.length > 2000
 ·rw [if_pos h,decide_eq_true (show ((l.length:Nat):Int) > 2000 by omega)];rfl
 ·rw [if_neg h,decide_eq_false (show ¬ ((l.length:Nat):Int) > 2000 by omega),aC]
  have:=aCo hf hk N 0 (Nat.zero_le _) (by have:=hf.len;omega)
  simpa using this
theorem aXt {k:Int} {j:Nat} (hj:j <= 3):((bits .and .i64 k (1 * 2 ^ j)) > 0) ↔ (bits .and .i64 (k / (2 ^ j)) 1)=1:=by
 have e1:(bits .and .i64 k (1 * 2 ^ j))=IntKind.wrap .i64 ((((k % 2 ^ 64).toNat &&& 2 ^ j:Nat)):Int):=by
  show IntKind.wrap .i64 ((BitVec.ofInt 64 k &&& BitVec.ofInt 64 (1 * 2 ^ j)).toNat:Int)=_
  rw [BitVec.toNat_and,BitVec.toNat_ofInt,BitVec.toNat_ofInt]
  have:((1 * 2 ^ j:Int) % ((2 ^ 64:Nat):Int)).toNat=2 ^ j:=by
   match j,hj with
   | 0,_=>rfl
   | 1,_=>rfl
   | 2,_=>rfl
   | 3,_=>rfl
  rw [this];rfl
 have e2:(bits .and .i64 (k / (2 ^ j)) 1)=IntKind.wrap .i64 (((((k / 2 ^ j) % 2 ^ 64).toNat % 2:Nat)):Int):=by
  show IntKind.wrap .i64 ((BitVec.ofInt 64 (k / 2 ^ j) &&& 1#64).toNat:Int)=_
  rw [BitVec.toNat_and,BitVec.toNat_ofInt,show (1#64).toNat=1 from rfl,Nat.and_one_is_mod]
  rfl
 have e3:((k / 2 ^ j) % 2 ^ 64).toNat % 2=(k % 2 ^ 64).toNat / 2 ^ j % 2:=by
  match j,hj with
  | 0,_=>simp only [Int.pow_zero,Nat.pow_zero];omega
  | 1,_=>simp only [Int.pow_one,Nat.pow_one];omega
  | 2,_=>rw [show (2:Int) ^ 2=4 from rfl,show (2:Nat) ^ 2=4 from rfl];omega
  | 3,_=>rw [show (2:Int) ^ 3=8 from rfl,show (2:Nat) ^ 3=8 from rfl];omega
 have e4:(k % 2 ^ 64).toNat &&& 2 ^ j=((k % 2 ^ 64).toNat / 2 ^ j % 2) * 2 ^ j:=by
  generalize (k % 2 ^ 64).toNat=n
  apply Nat.eq_of_testBit_eq
  intro i
  rw [Nat.testBit_and,Nat.testBit_two_pow]
  have:n / 2 ^ j % 2=0\/n / 2 ^ j % 2=1:=by omega
  by_cases e:j=i
  ·subst e
   rw [Nat.testBit_eq_decide_div_mod_eq]
   rcases this with h | h <;> rw [h]
   ·rw [Nat.zero_mul,Nat.zero_testBit];simp
   ·rw [Nat.one_mul,Nat.testBit_two_pow];simp
  ·rw [decide_eq_false e,Bool.and_false]
   rcases this with h | h <;> rw [h]
   ·rw [Nat.zero_mul,Nat.zero_testBit]
   ·rw [Nat.one_mul,Nat.testBit_two_pow,decide_eq_false e]
 rw [e1,e2,e3,e4]
 have:(k % 2 ^ 64).toNat / 2 ^ j % 2=0\/(k % 2 ^ 64).toNat / 2 ^ j % 2=1:=by omega
 rcases this with h | h <;> rw [h]
 ·rw [Nat.zero_mul];decide
 ·match j,hj with
  | 0,_=>decide
  | 1,_=>decide
  | 2,_=>decide
  | 3,_=>decide
theorem aRd {N:Nat} (k:Int):dZ N k=some (if 0 <= k/\k <= 3 then 1 * 2 ^ k.toNat else 0):=by
 unfold dZ
 by_cases h0:k < 0
 ·rw [decide_eq_true h0,if_neg (by omega)];rfl
 ·rw [decide_eq_false h0,aC]
  simp only [aL]
  by_cases h3:k > 3
  ·rw [decide_eq_true h3,if_neg (by omega)];rfl
  ·have h8:(0:Int) < 1 * 2 ^ k.toNat/\(1 * 2 ^ k.toNat:Int) <= 8:=by
    have:k.toNat <= 3:=by omega
    match k.toNat,this with
    | 0,_=>decide
    | 1,_=>decide
    | 2,_=>decide
    | 3,_=>decide
   rw [decide_eq_false h3,aC,aO (by omega),aO (by show k <= 64;omega),bV (by omega) (by omega),if_pos (by omega)]
theorem aTz {N:Nat} (x:Rd) (c:Ch):iQ N x c=some ((!decide (c.1 < 0) && !decide (c.1 > 3)) && tR c x):=by
 unfold iQ
 rw [aRd]
 simp only [aL]
 by_cases h:0 <= c.1/\c.1 <= 3
 ·have h8:(0:Int) < 1 * 2 ^ c.1.toNat:=by
   have:c.1.toNat <= 3:=by omega
   match c.1.toNat,this with
   | 0,_=>decide
   | 1,_=>decide
   | 2,_=>decide
   | 3,_=>decide
  rw [if_pos h,decide_eq_false (show ¬ c.1 < 0 by omega),decide_eq_false (show ¬ c.1 > 3 by omega),decide_eq_true (show (1 * 2 ^ c.1.toNat:Int) > 0 by omega)]
  unfold tR
  have e:decide ((bits .and .i64 x.2.1 (1 * 2 ^ c.1.toNat)) > 0)=((bits .and .i64 (x.2.1 / (2 ^ c.1.toNat)) 1) == 1):=by
   rw [Bool.eq_iff_iff,decide_eq_true_eq,beq_iff_eq]
   exact aXt (by omega)
  rw [e]
  cases (x.1 == c.2.1) <;> cases ((bits .and .i64 (x.2.1 / (2 ^ c.1.toNat)) 1) == 1) <;> rfl
 ·rw [if_neg h]
  have:(!decide (c.1 < 0) && !decide (c.1 > 3))=false:=by
   by_cases h0:c.1 < 0
   ·rw [decide_eq_true h0];rfl
   ·rw [decide_eq_true (show c.1 > 3 by omega),Bool.not_true,Bool.and_false]
  rw [this]
  cases (x.1 == c.2.1) <;> rfl
theorem vU {N:Nat} {id:Int} {rs:List Rd} {of:List Int} {c:Ch} (hl:rs.length <= 4611686018427387904):∀ (m k:Nat),k <= rs.length->rs.length - k < m ->
  lC N m (k:Int) id rs of c.1 c.2.1 c.2.2.1 c.2.2.2=some ((!decide (c.1 < 0) && !decide (c.1 > 3)) && (rs.drop k).any (tR c))
 | 0,_,_,h=>absurd h (Nat.not_lt_zero _)
 | m + 1,k,h1,h=>by
  show kP N (lC N m) _ id rs of _ _ _ _=_
  unfold kP
  by_cases hlt:k < rs.length
  ·rw [fX hlt,aG,bM (bU hlt),List.drop_eq_getElem_cons hlt,List.any_cons,show iQ N (rs[k].1,(rs[k].2.1,(rs[k].2.2.1,rs[k].2.2.2))) (c.1,(c.2.1,(c.2.2.1,c.2.2.2)))=some _ from aTz rs[k] c]
   simp only [aL]
   have ih:=vU (N:=N) (id:=id) (of:=of) (c:=c) hl m (k + 1) (by omega) (by omega)
   cases hc:(!decide (c.1 < 0) && !decide (c.1 > 3)) with
   | false =>
    rw [Bool.false_and,aC,bV (by omega) (by omega),show ((k:Int) + 1)=((k + 1:Nat):Int) by omega,ih,hc];rfl
   | true =>
    rw [Bool.true_and,Bool.true_and]
    cases hb:tR c rs[k] with
    | true=>rfl
    | false=>rw [aC,bV (by omega) (by omega),show ((k:Int) + 1)=((k + 1:Nat):Int) by omega,ih,hc];rfl
  ·rw [gI hlt,aC,List.drop_of_length_le (by omega)];simp
theorem aCe {N:Nat} {d:De} {c:Ch} (hl:d.2.1.length <= 4611686018427387904) (hN:d.2.1.length < N):dL N d c=some (tch d c):=by
 unfold dL tch
 have:=vU (N:=N) (id:=d.1) (of:=d.2.2) (c:=c) hl N 0 (Nat.zero_le _) (by omega)
 rw [List.drop_zero] at this
 exact this
theorem vZ {N:Nat} {d:De} {cs:List Ch} (hd:d.2.1.length <= 4611686018427387904) (hN:d.2.1.length < N) (hl:cs.length <= 4611686018427387904):∀ (m k:Nat),k <= cs.length->cs.length - k < m ->
  jQ N m cs (k:Int) d.1 d.2.1 d.2.2=some ((cs.drop k).any (tch d))
 | 0,_,_,h=>absurd h (Nat.not_lt_zero _)
 | m + 1,k,h1,h=>by
  show kU N (jQ N m) cs _ _ _ _=_
  unfold kU
  by_cases hlt:k < cs.length
  ·rw [fX hlt,aG,bM (bU hlt),List.drop_eq_getElem_cons hlt,List.any_cons,show dL N (d.1,(d.2.1,d.2.2)) (cs[k].1,(cs[k].2.1,(cs[k].2.2.1,cs[k].2.2.2)))=some _ from aCe (d:=d) (c:=cs[k]) hd hN]
   simp only [aL]
   cases hb:tch d cs[k] with
   | true=>rfl
   | false =>
    rw [aC,bV (by omega) (by omega),show ((k:Int) + 1)=((k + 1:Nat):Int) by omega,vZ hd hN hl m (k + 1) (by omega) (by omega)]
    rfl
  ·rw [gI hlt,aC,List.drop_of_length_le (by omega)];rfl
theorem aN2 {N:Nat} {d:De} {cs:List Ch} (hd:d.2.1.length <= 4611686018427387904) (hN:d.2.1.length < N) (hl:cs.length <= 4611686018427387904) (hN2:cs.length < N):fJ N d cs=some (cs.any (tch d)):=by
 unfold fJ
 have:=vZ (d:=d) hd hN hl N 0 (Nat.zero_le _) (by omega)
 rw [List.drop_zero] at this
 exact this
theorem aIg {l:List Int} {x:Int} (hl:l.length <= 4611686018427387904):∀ (m k:Nat),k <= l.length->l.length - k < m->pV m l x (k:Int)=some (decide (x ∈ l.drop k))
 | 0,_,_,h=>absurd h (Nat.not_lt_zero _)
 | m + 1,k,h1,h=>by
  show qF (pV m) l x _=_
  unfold qF
  by_cases hlt:k < l.length
  ·rw [fX hlt,aG,bM (bU hlt),List.drop_eq_getElem_cons hlt]
   by_cases e:l[k]=x
   ·rw [show (l[k] == x)=true by simpa using e,aG,decide_eq_true (by rw [e];exact List.mem_cons_self)]
   ·rw [show (l[k] == x)=false by simpa using e,aC,bV (by omega) (by omega),show ((k:Int) + 1)=((k + 1:Nat):Int) by omega,aIg hl m (k + 1) (by omega) (by omega)]
    refine congrArg some (decide_eq_decide.2 ?_)
    rw [List.mem_cons]
    exact ⟨.inr,fun q=>q.resolve_left fun q=>e q.symm⟩
  ·rw [gI hlt,aC,List.drop_of_length_le (by omega)]
   simp
theorem aQ8 {N:Nat} {l:List Int} {x:Int} (hl:l.length <= 4611686018427387904) (hN:l.length < N):mL N l x=some (decide (x ∈ l)):=by
 unfold mL
 have:=aIg (x:=x) hl N 0 (Nat.zero_le _) (by omega)
 rw [List.drop_zero] at this
 exact this
theorem aAr {N:Nat} {a b:List Int} (hl:a.length <= 4611686018427387904) (hb:b.length <= 4611686018427387904) (hN:b.length < N):∀ (m k:Nat),k <= a.length->a.length - k < m->lW N m a b (k:Int)=some ((a.drop k).any fun x=>decide (x ∈ b))
 | 0,_,_,h=>absurd h (Nat.not_lt_zero _)
 | m + 1,k,h1,h=>by
  show lQ N (lW N m) a b _=_
  unfold lQ
  by_cases hlt:k < a.length
  ·rw [fX hlt,aG,bM (bU hlt),List.drop_eq_getElem_cons hlt,aQ8 hb hN,List.any_cons]
   simp only [aL]
   cases decide (a[k] ∈ b) with
   | true=>rfl
   | false =>
    rw [aC,bV (by omega) (by omega),show ((k:Int) + 1)=((k + 1:Nat):Int) by omega,aAr hl hb hN m (k + 1) (by omega) (by omega)]
    rfl
  ·rw [gI hlt,aC,List.drop_of_length_le (by omega)];rfl
theorem aFy {N:Nat} {a b:List Int} (hl:a.length <= 4611686018427387904) (hN2:a.length < N) (hb:b.length <= 4611686018427387904) (hN:b.length < N):gN N a b=some (a.any fun x=>decide (x ∈ b)):=by
 unfold gN
 have:=aAr (a:=a) hl hb hN N 0 (Nat.zero_le _) (by omega)
 rw [List.drop_zero] at this
 exact this
def aGv (P:De->Bool):List De->List Int->List Int
 | [],out=>out
 | d :: r,out=>if (P d || d.2.2.any fun x=>decide (x ∈ out))=true then aGv P r (out ++ [d.1]) else aGv P r out
theorem zA {l:List De} (hc:chk l=0) {T:De->Prop} {P:De->Bool}:∀ (n k:Nat) (out:List Int),l.length - k=n->(∀ x,x ∈ out ↔ ∃ j,∃ hj:j < l.length,j < k/\l[j].1=x/\Aff l T l[j])->out.Pairwise (· < ·)->(∀ j (hj:j < l.length),k <= j->(P l[j]=true ↔ T l[j])) ->
  (aGv P (l.drop k) out).Pairwise (· < ·)/\∀ x,x ∈ aGv P (l.drop k) out ↔ ∃ j,∃ hj:j < l.length,l[j].1=x/\Aff l T l[j]
 | 0,k,out,hn,h1,h2,h3=>by
  rw [List.drop_of_length_le (by omega)]
  refine ⟨h2,fun x=>(h1 x).trans ?_⟩
  constructor
  ·rintro ⟨j,hj,_,r⟩;exact ⟨j,hj,r⟩
  ·rintro ⟨j,hj,r⟩;exact ⟨j,hj,by omega,r⟩
 | n + 1,k,out,hn,h1,h2,h3=>by
  have hk:k < l.length:=by omega
  have hs:=dS hc
  have hdue:(P l[k] || l[k].2.2.any fun x=>decide (x ∈ out))=true ↔ Aff l T l[k]:=by
   rw [aDk hc hk,Bool.or_eq_true,List.any_eq_true (l:=l[k].2.2),h3 k hk (Nat.le_refl _)]
   constructor
   ·rintro (h | ⟨o,ho,h⟩)
    ·exact .inl h
    ·obtain ⟨j,hj,q1,rfl,q3⟩:=(h1 o).1 (of_decide_eq_true h)
     exact .inr ⟨j,hj,q1,ho,q3⟩
   ·rintro (h | ⟨j,hj,q,ho,h⟩)
    ·exact .inl h
    ·exact .inr ⟨_,ho,decide_eq_true ((h1 _).2 ⟨j,hj,q,rfl,h⟩)⟩
  rw [List.drop_eq_getElem_cons hk,aGv]
  by_cases hd:(P l[k] || l[k].2.2.any fun x=>decide (x ∈ out))=true
  ·have hA:=hdue.1 hd
   rw [if_pos hd]
   refine zA hc n (k + 1) (out ++ [l[k].1]) (by omega) (fun x=>?_) ?_ (fun j hj q=>h3 j hj (by omega))
   ·rw [List.mem_append,List.mem_singleton,h1]
    constructor
    ·rintro (⟨j,hj,q,r⟩ | rfl)
     ·exact ⟨j,hj,by omega,r⟩
     ·exact ⟨k,hk,by omega,rfl,hA⟩
    ·rintro ⟨j,hj,q,r1,r2⟩
     by_cases e:j=k
     ·subst e;exact .inr r1.symm
     ·exact .inl ⟨j,hj,by omega,r1,r2⟩
   ·refine List.pairwise_append.2 ⟨h2,List.pairwise_singleton _ _,fun x hx y hy=>?_⟩
    obtain ⟨j,hj,q,rfl,_⟩:=(h1 x).1 hx
    rw [List.mem_singleton.1 hy]
    exact aJd hs hk q
  ·have hA:¬ Aff l T l[k]:=fun q=>hd (hdue.2 q)
   rw [if_neg hd]
   refine zA hc n (k + 1) out (by omega) (fun x=>?_) h2 (fun j hj q=>h3 j hj (by omega))
   rw [h1]
   constructor
   ·rintro ⟨j,hj,q,r⟩;exact ⟨j,hj,by omega,r⟩
   ·rintro ⟨j,hj,q,r1,r2⟩
    have e:j ≠ k:=fun e=>by subst e;exact hA r2
    exact ⟨j,hj,by omega,r1,r2⟩
theorem oN {N:Nat} {l:List De} {cs:List Ch} {e:List Int} {z:Int} (hf:Few N l) (hl:l.length <= 1000000000000) (hc:cs.length <= 4611686018427387904) (hN2:cs.length < N):∀ (m k:Nat) (out:List Int),k <= l.length->l.length - k < m->out.length <= k ->
  jD N m l cs (k:Int) z out e=some (aGv (fun d=>cs.any (tch d)) (l.drop k) out,0)
 | 0,_,_,_,h,_=>absurd h (Nat.not_lt_zero _)
 | m + 1,k,out,h1,h,h2=>by
  show jG N (jD N m) l cs _ z out e=_
  unfold jG
  have hlen:=hf.len
  by_cases hlt:k < l.length
  ·have hm:=List.getElem_mem hlt
   have hd:=hf.rd _ hm
   have ho:=hf.of _ hm
   rw [fX hlt,aG,bM (bU hlt),List.drop_eq_getElem_cons hlt,aGv,show fJ N (l[k].1,(l[k].2.1,l[k].2.2)) cs=some _ from aN2 (d:=l[k]) hd.2 hd.1 hc hN2]
   simp only [aL]
   rw [bM (bU hlt),aR,aFy ho.2 ho.1 (by omega) (by omega)]
   simp only [aL]
   have e1:(if? (cs.any (tch l[k])) (gl? out.length out (gl? e.length e (some (l,cs,(k:Int),true,z,out,e)))) (gl? out.length out (gl? e.length e (some (l,cs,(k:Int),(l[k].2.2.any fun x=>decide (x ∈ out)),z,out,e)))))=some (l,cs,(k:Int),(cs.any (tch l[k]) || l[k].2.2.any fun x=>decide (x ∈ out)),z,out,e):=by
    simp only [aR]
    cases cs.any (tch l[k]) <;> rfl
   rw [e1]
   simp only [aL]
   cases hb:(cs.any (tch l[k]) || l[k].2.2.any fun x=>decide (x ∈ out)) with
   | true =>
    simp only [aG,if_true]
    rw [bM (bU hlt),aR,aO (by simp;omega)]
    simp only [aR,aL]
    rw [bV (by omega) (by omega),show ((k:Int) + 1)=((k + 1:Nat):Int) by omega,oN hf hl hc hN2 m (k + 1) (out ++ [l[k].1]) (by omega) (by omega) (by simp;omega)]
   | false =>
    simp only [aC,aR,Bool.false_eq_true,if_false,aL]
    rw [bV (by omega) (by omega),show ((k:Int) + 1)=((k + 1:Nat):Int) by omega,oN hf hl hc hN2 m (k + 1) out (by omega) (by omega) (by omega)]
  ·rw [gI hlt,aC,List.drop_of_length_le (by omega),aR];rfl
theorem aIo {N:Nat} {l:List De} {cs:List Ch} (hf:Few N l) (hk:kOk l) (hl:l.length <= 1000000000000) (hc:cs.length <= 4611686018427387904) (hN2:cs.length < N):eW N l cs=some (if chk l=0 then (clo l (inM [] (aG0 cs l)),0) else ([],chk l)):=by
 unfold eW
 rw [nZ hf hk]
 simp only [aL]
 by_cases h:chk l=0
 ·rw [h]
  simp only [bne_self_eq_false,aC,if_true]
  have:=oN (N:=N) (z:=0) (e:=[]) hf hl hc hN2 N 0 [] (Nat.zero_le _) (by have:=hf.len;omega) (Nat.le_refl _)
  rw [List.drop_zero] at this
  refine Eq.trans this ?_
  obtain ⟨r1,r2⟩:=zA h (T:=TC cs) (P:=fun d=>cs.any (tch d)) l.length 0 [] (by omega) (fun x=>⟨(by intro q;cases q),(by rintro ⟨j,_,q,_⟩;omega)⟩) List.Pairwise.nil (fun j hj _=>Iff.rfl)
  rw [List.drop_zero] at r1 r2
  refine congrArg (fun z=>some (z,(0:Int))) (aI9 r1 (aJv (dS h) _) fun x=>?_)
  rw [r2,aDu h (aWi h cs)]
 ·rw [if_neg h,show (chk l != 0)=true by simpa using h];rfl
theorem tH {N:Nat} {l:List De} {e:List Int} {z:Int} (hf:Few N l) (hl:l.length <= 1000000000000):∀ (m k:Nat) (out:List Int),k <= l.length->l.length - k < m->out.length <= k->1 <= out.length ->
  nD N m l (k:Int) z out e=some ((aGv (fun _=>false) (l.drop k) out).drop 1,0)
 | 0,_,_,_,h,_,_=>absurd h (Nat.not_lt_zero _)
 | m + 1,k,out,h1,h,h2,h3=>by
  show mW N (nD N m) l _ z out e=_
  unfold mW
  have hlen:=hf.len
  by_cases hlt:k < l.length
  ·have hm:=List.getElem_mem hlt
   have ho:=hf.of _ hm
   rw [fX hlt,aG,bM (bU hlt),List.drop_eq_getElem_cons hlt,aGv,aR,aFy ho.2 ho.1 (by omega) (by omega)]
   simp only [aL,Bool.false_or]
   cases hb:(l[k].2.2.any fun x=>decide (x ∈ out)) with
   | true =>
    simp only [aG,if_true]
    rw [bM (bU hlt),aR,aO (by simp;omega)]
    simp only [aR,aL]
    rw [bV (by omega) (by omega),show ((k:Int) + 1)=((k + 1:Nat):Int) by omega,tH hf hl m (k + 1) (out ++ [l[k].1]) (by omega) (by omega) (by simp;omega) (by simp)]
   | false =>
    simp only [aC,aR,Bool.false_eq_true,if_false,aL]
    rw [bV (by omega) (by omega),show ((k:Int) + 1)=((k + 1:Nat):Int) by omega,tH hf hl m (k + 1) out (by omega) (by omega) (by omega) h3]
  ·rw [gI hlt,aC,aO h3,aO (Nat.le_refl _),aO (by omega),List.take_of_length_le (by simp),List.drop_of_length_le (show l.length <= k by omega)];rfl
theorem aSw {N:Nat} {l:List De} (hf:Few N l) (hk:kOk l) (hl:l.length <= 1000000000000) (id:Int):lZ N l id=some (aBn l id):=by
 unfold lZ aBn
 rw [nZ hf hk]
 simp only [aL]
 by_cases h:chk l=0
 ·rw [h,if_pos rfl]
  simp only [bne_self_eq_false,aC]
  obtain ⟨v,e1,e2⟩:=aO0 (id:=id) hf.big hf.len
  rw [e1]
  simp only [aL]
  rcases e2 with ⟨rfl,q⟩ | ⟨j,hj,rfl,rfl⟩
  ·rw [decide_eq_true (by omega),if_neg q];rfl
  ·rw [decide_eq_false (by omega),aC,bV (by omega) (by omega),if_pos (List.mem_map.2 ⟨_,List.getElem_mem hj,rfl⟩),show ((j:Int) + 1)=((j + 1:Nat):Int) by omega]
   rw [tH hf hl N (j + 1) [l[j].1] (by omega) (by have:=hf.len;omega) (by simp) (by simp)]
   obtain ⟨r1,r2⟩:=zA h (T:=(·=l[j])) (P:=fun _=>false) (l.length - (j + 1)) (j + 1) [l[j].1] rfl (fun x=>by
    rw [List.mem_singleton]
    constructor
    ·rintro rfl;exact ⟨j,hj,by omega,rfl,.own (List.getElem_mem hj) rfl⟩
    ·rintro ⟨i,hi,q,rfl,r⟩
     have:=aY9 h hj i hi r
     have:i=j:=by omega
     subst this;rfl) (List.pairwise_singleton _ _) (fun i hi q=>⟨(by intro q;cases q),fun e=>by
     have:=kX (dS h) hi hj (by rw [e]);omega⟩)
   have:aGv (fun _=>false) (l.drop (j + 1)) [l[j].1]=clo l (bY [] l[j].1 true):=aI9 r1 (aJv (dS h) _) fun x=>by rw [r2,aDu h (T:=(·=l[j])) (aJ6 h hj)]
   rw [this]
 ·rw [if_neg h,show (chk l != 0)=true by simpa using h];rfl
theorem bBi {N:Nat} {l:List De} {d:De} (hf:Few N l) (hk:kOk l) (hkd:∀ x ∈ d.2.1,x.2.1 <= 9223372036854775807) (hl:l.length <= 1000000) (hr:d.2.1.length <= 1000000) (ho:d.2.2.length <= 1000000) (h1:d.2.1.length < N) (h2:d.2.2.length < N):mF N l d=some ((aG2 l d).2,(aG2 l d).1):=by
 unfold mF aG2
 rw [nZ hf hk]
 simp only [aL]
 by_cases h:chk l=0
 ·have hs:=dS h
  rw [h,if_pos rfl,show eH N (d.1,(d.2.1,d.2.2))=some (cR d) from aH0 (d:=d) (by omega) (by omega) h1 h2 hkd]
  simp only [bne_self_eq_false,aC,aL,oG]
  by_cases hb:cR d=true
  ·rw [hb,aG,if_pos rfl]
   have e1:(if? (decide (((l.length:Nat):Int) > 0)) (ck .i64 ((((l.length:Nat):Int) - 1)) (aT l ((Max.max 0 (((l.length:Nat):Int) - 1))) fun x5=>some (l,decide (d.1 <= x5.1),d.1,d.2.1,d.2.2,(0:Int),([]:List De)))) (some (l,false,d.1,d.2.1,d.2.2,(0:Int),([]:List De))))=some (l,wN l d,d.1,d.2.1,d.2.2,(0:Int),([]:List De)):=by
    unfold wN
    by_cases hp:0 < l.length
    ·rw [decide_eq_true (show ((l.length:Nat):Int) > 0 by omega),aG,bV (by omega) (by omega),tI (x:=l[l.length - 1]) (by omega) (by rw [show (Max.max 0 (((l.length:Nat):Int) - 1)).toNat=l.length - 1 by omega];exact bU (by omega)),List.getLast?_eq_getElem?,bU (show l.length - 1 < l.length by omega)]
    ·have:l=[]:=List.eq_nil_of_length_eq_zero (by omega)
     subst this;rfl
   refine Eq.trans (congrArg (fun z=>bd? z _) e1) ?_
   simp only [aL]
   cases wN l d with
   | true=>rfl
   | false =>
    rw [aC,if_neg Bool.false_ne_true,aG5 hf.big hf.len (by omega) h2]
    simp only [aL,oG]
    cases (d.2.2.all fun i=>decide (i ∈ ids l)) with
    | false=>rfl
    | true =>
     rw [aG,if_pos rfl]
     by_cases h20:2000 <= l.length
     ·rw [decide_eq_true (show ((l.length:Nat):Int) ≥ 2000 by omega),if_pos h20];rfl
     ·rw [decide_eq_false (show ¬ ((l.length:Nat):Int) ≥ 2000 by omega),if_neg h20,aC]
      simp only [aR,bGz]
      rw [aO (by omega),aO trivial,aO trivial,aO trivial,aO (by simp only [List.length_cons,List.length_nil];omega),aO trivial,aO trivial,aO trivial]
  ·rw [if_neg hb]
   have:cR d=false:=by simpa using hb
   rw [this];rfl
 ·rw [if_neg h,show (chk l != 0)=true by simpa using h];rfl
def inS (g:Int) (k:Nat) (x:Rd):Bool:=(x.1 == g) && aEt x k
def qR (g:Int) (k:Nat) (all:List Rd) (t:Int):Bool:=all.any fun x=>inS g k x && (decide (x.2.2.1 <= t) && decide (t < x.2.2.2))
theorem yQ {g:Int} {k:Nat} {all:List Rd} {t:Int}:qR g k all t=true ↔ ∃ x ∈ all,inS g k x=true/\x.2.2.1 <= t/\t < x.2.2.2:=by
 unfold qR
 rw [List.any_eq_true]
 constructor
 ·rintro ⟨x,hx,h⟩
  rw [Bool.and_eq_true,Bool.and_eq_true,decide_eq_true_eq,decide_eq_true_eq] at h
  exact ⟨x,hx,h⟩
 ·rintro ⟨x,hx,h⟩
  refine ⟨x,hx,?_⟩
  rw [Bool.and_eq_true,Bool.and_eq_true,decide_eq_true_eq,decide_eq_true_eq]
  exact h
section
variable {N:Nat} {g:Int} {k:Nat} {all:List Rd} (hk:k <= 3) (hl:all.length <= 1000000000000) (hN:all.length < N) (hA:∀ x ∈ all,0 <= x.2.2.1/\x.2.2.1 < x.2.2.2/\x.2.2.2 <= 1402560)
include hk in
theorem aQt:dZ N (k:Int)=some (1 * 2 ^ k):=by
 rw [aRd,if_pos ⟨by omega,by omega⟩,Int.toNat_natCast]
include hk hl in
theorem aAo (t:Int):∀ (m i:Nat),i <= all.length->all.length - i < m->kR N m g (k:Int) t (i:Int) all=some (qR g k (all.drop i) t,all)
 | 0,_,_,h=>absurd h (Nat.not_lt_zero _)
 | m + 1,i,h1,h=>by
  show jL N (kR N m) g _ t _ all=_
  unfold jL
  by_cases hlt:i < all.length
  ·have g1:(0:Int) <= (i:Int):=by omega
   have g2:(i:Int) < ((all.length:Nat):Int):=by omega
   rw [fX hlt,aG,List.drop_eq_getElem_cons hlt]
   simp only [aO g1,aO g2,Int.toNat_natCast,wQ (bU hlt),aQt hk,aL,aR]
   have e0:qR g k (all[i] :: all.drop (i + 1)) t=((inS g k all[i] && (decide (all[i].2.2.1 <= t) && decide (t < all[i].2.2.2))) || qR g k (all.drop (i + 1)) t):=List.any_cons
   rw [e0]
   have e1:(if? (all[i].1 == g) (if? (decide ((bits .and .i64 all[i].2.1 (1 * 2 ^ k)) > 0)) (if? (decide (all[i].2.2.1 <= t)) (some (g,(k:Int),t,(i:Int),decide (t < all[i].2.2.2),all)) (some (g,(k:Int),t,(i:Int),false,all))) (some (g,(k:Int),t,(i:Int),false,all))) (some (g,(k:Int),t,(i:Int),false,all)))=some (g,(k:Int),t,(i:Int),(inS g k all[i] && (decide (all[i].2.2.1 <= t) && decide (t < all[i].2.2.2))),all):=by
    unfold inS aEt
    cases (all[i].1 == g) <;> cases (decide ((bits .and .i64 all[i].2.1 (1 * 2 ^ k)) > 0)) <;> cases (decide (all[i].2.2.1 <= t)) <;> rfl
   rw [e1]
   simp only [aL]
   cases hb:(inS g k all[i] && (decide (all[i].2.2.1 <= t) && decide (t < all[i].2.2.2))) with
   | true=>rfl
   | false =>
    rw [aC,bV (by omega) (by omega),show ((i:Int) + 1)=((i + 1:Nat):Int) by omega,aAo t m (i + 1) (by omega) (by omega)]
    rfl
  ·rw [gI hlt,aC,List.drop_of_length_le (by omega)];rfl
include hk hl hN in
theorem aPj (t:Int):iV N g (k:Int) t all=some (qR g k all t,all):=by
 unfold iV
 rw [aR]
 have:=aAo (N:=N) (g:=g) hk hl t N 0 (Nat.zero_le _) (by omega)
 rw [List.drop_zero] at this
 exact this
def aGf (g:Int) (k:Nat) (all:List Rd) (a:Int) (x:Rd):Bool:=(inS g k x && decide (x.2.2.1 > a)) && !qR g k all (x.2.2.1 - 1)
def nxt (g:Int) (k:Nat) (all:List Rd) (a:Int):List Rd->Int->Int
 | [],n=>n
 | x :: r,n=>nxt g k all a r (if aGf g k all a x=true then min n x.2.2.1 else n)
theorem aMw (a:Int):∀ (r:List Rd) (n:Int),nxt g k all a r n <= n/\(∀ x ∈ r,aGf g k all a x=true->nxt g k all a r n <= x.2.2.1)/\(nxt g k all a r n=n\/∃ x ∈ r,aGf g k all a x=true/\nxt g k all a r n=x.2.2.1)
 | [],n=>⟨Int.le_refl _,(fun _ h=>by cases h),.inl rfl⟩
 | x :: r,n=>by
  obtain ⟨i1,i2,i3⟩:=aMw a r (if aGf g k all a x=true then min n x.2.2.1 else n)
  unfold nxt
  by_cases hc:aGf g k all a x=true
  ·rw [if_pos hc] at i1 i2 i3 |-
   refine ⟨by omega,fun y hy hcy=>?_,?_⟩
   ·rcases List.mem_cons.1 hy with rfl | hy
    ·omega
    ·exact i2 y hy hcy
   ·rcases i3 with i3 | ⟨y,hy,q⟩
    ·rcases (show min n x.2.2.1=n\/min n x.2.2.1=x.2.2.1 by omega) with e | e
     ·exact .inl (i3.trans e)
     ·exact .inr ⟨x,List.mem_cons_self,hc,i3.trans e⟩
    ·exact .inr ⟨y,List.mem_cons_of_mem _ hy,q⟩
  ·rw [if_neg hc] at i1 i2 i3 |-
   refine ⟨i1,fun y hy hcy=>?_,?_⟩
   ·rcases List.mem_cons.1 hy with rfl | hy
    ·exact absurd hcy hc
    ·exact i2 y hy hcy
   ·rcases i3 with i3 | ⟨y,hy,q⟩
    ·exact .inl i3
    ·exact .inr ⟨y,List.mem_cons_of_mem _ hy,q⟩
def pas (g:Int) (k:Nat):List Rd->Int->Int
 | [],e=>e
 | x :: r,e=>pas g k r (if (inS g k x && decide (x.2.2.1 <= e))=true then max e x.2.2.2 else e)
def itP (g:Int) (k:Nat) (all:List Rd):Nat->Int->Int
 | 0,e=>e
 | n + 1,e=>itP g k all n (pas g k all e)
theorem aE5:∀ (r:List Rd) (e:Int),e <= pas g k r e
 | [],e=>Int.le_refl _
 | x :: r,e=>by
  unfold pas
  split
  ·have:=aE5 r (max e x.2.2.2);omega
  ·exact aE5 r e
theorem aEk:∀ (r:List Rd) (e:Int),∀ x ∈ r,inS g k x=true->x.2.2.1 <= e->x.2.2.2 <= pas g k r e
 | [],_,_,h,_,_=>by cases h
 | y :: r,e,x,h,hs,hx=>by
  unfold pas
  rcases List.mem_cons.1 h with rfl | h
  ·rw [if_pos (by rw [hs,decide_eq_true hx];rfl)]
   have:=aE5 (g:=g) (k:=k) r (max e x.2.2.2);omega
  ·refine aEk r _ x h hs ?_
   split
   ·omega
   ·exact hx
theorem aRk {lo:Int}:∀ (r:List Rd) (e:Int),(∀ x ∈ r,x ∈ all)->(∀ t,lo <= t->t < e->qR g k all t=true)->∀ t,lo <= t->t < pas g k r e->qR g k all t=true
 | [],_,_,h=>h
 | x :: r,e,hm,h=>by
  unfold pas
  refine aRk r _ (fun y hy=>hm y (List.mem_cons_of_mem _ hy)) ?_
  split
  ·rename_i hc
   rw [Bool.and_eq_true,decide_eq_true_eq] at hc
   intro t h1 h2
   by_cases ht:t < e
   ·exact h t h1 ht
   ·exact yQ.2 ⟨x,hm x List.mem_cons_self,hc.1,by omega,by omega⟩
  ·exact h
def Fix (g:Int) (k:Nat) (all:List Rd) (e:Int):Prop:=∀ x ∈ all,inS g k x=true->x.2.2.1 <= e->x.2.2.2 <= e
theorem aJu {e:Int}:∀ (r:List Rd),(∀ x ∈ r,x ∈ all)->Fix g k all e->pas g k r e=e
 | [],_,_=>rfl
 | x :: r,hm,h=>by
  unfold pas
  split
  ·rename_i hc
   rw [Bool.and_eq_true,decide_eq_true_eq] at hc
   have:=h x (hm x List.mem_cons_self) hc.1 hc.2
   rw [show max e x.2.2.2=e by omega]
   exact aJu r (fun y hy=>hm y (List.mem_cons_of_mem _ hy)) h
  ·exact aJu r (fun y hy=>hm y (List.mem_cons_of_mem _ hy)) h
def cn (e:Int) (r:List Rd):Nat:=(r.filter fun x=>decide (x.2.2.2 <= e)).length
theorem aRu {e f:Int} (h:e <= f):∀ r:List Rd,cn e r <= cn f r
 | []=>Nat.le_refl _
 | x :: r=>by
  have:=aRu h r
  unfold cn at *
  rw [List.filter_cons,List.filter_cons]
  by_cases h1:x.2.2.2 <= e
  ·rw [if_pos (decide_eq_true h1),if_pos (decide_eq_true (show x.2.2.2 <= f by omega))];simp;exact this
  ·rw [if_neg (by rw [decide_eq_false h1];exact Bool.false_ne_true)]
   split
   ·simp;omega
   ·exact this
theorem bCp {e f:Int} (h:e <= f):∀ r:List Rd,(∃ x ∈ r,e < x.2.2.2/\x.2.2.2 <= f)->cn e r < cn f r
 | [],⟨_,h,_⟩=>by cases h
 | x :: r,⟨y,hy,h1,h2⟩=>by
  rcases List.mem_cons.1 hy with rfl | hy
  ·have:=aRu h r
   unfold cn at *
   rw [List.filter_cons,List.filter_cons,if_neg (by rw [decide_eq_false (show ¬ y.2.2.2 <= e by omega)];exact Bool.false_ne_true),if_pos (decide_eq_true h2)]
   simp;omega
  ·have:=bCp h r ⟨y,hy,h1,h2⟩
   unfold cn at *
   rw [List.filter_cons,List.filter_cons]
   by_cases h3:x.2.2.2 <= e
   ·rw [if_pos (decide_eq_true h3),if_pos (decide_eq_true (show x.2.2.2 <= f by omega))];simp;exact this
   ·rw [if_neg (by rw [decide_eq_false h3];exact Bool.false_ne_true)]
    split
    ·simp;omega
    ·exact this
theorem bGr (e:Int) (r:List Rd):cn e r <= r.length:=List.length_filter_le _ _
theorem bEg {e:Int}:∀ {r:List Rd},cn e r=r.length->∀ x ∈ r,x.2.2.2 <= e:=by
 intro r h x hx
 unfold cn at h
 have:=List.length_filter_eq_length_iff.1 h x hx
 exact of_decide_eq_true this
theorem aXh:∀ (n:Nat) (e:Int),e <= itP g k all n e
 | 0,e=>Int.le_refl _
 | n + 1,e=>Int.le_trans (aE5 all e) (aXh n _)
theorem aL5 {e:Int} (hf:Fix g k all e):∀ n,itP g k all n e=e
 | 0=>rfl
 | n + 1=>by unfold itP;rw [aJu all (fun _ h=>h) hf];exact aL5 hf n
theorem aSc:∀ (n:Nat) (e:Int),cn e all + n <= cn (itP g k all n e) all\/Fix g k all (itP g k all n e)
 | 0,e=>.inl (Nat.le_refl _)
 | n + 1,e=>by
  by_cases hf:Fix g k all e
  ·exact .inr (by rw [aL5 hf];exact hf)
  ·unfold itP
   have hx:∃ x ∈ all,inS g k x=true/\x.2.2.1 <= e/\e < x.2.2.2:=by
    apply Classical.byContradiction
    intro hn
    exact hf fun x hx hs hle=>by
     rcases Int.lt_or_le e x.2.2.2 with q | q
     ·exact absurd ⟨x,hx,hs,hle,q⟩ hn
     ·exact q
   obtain ⟨x,hx,hs,hle,hlt⟩:=hx
   have h1:cn e all < cn (pas g k all e) all:=bCp (aE5 all e) all ⟨x,hx,hlt,aEk all e x hx hs hle⟩
   rcases aSc n (pas g k all e) with q | q
   ·exact .inl (by omega)
   ·exact .inr q
theorem bAn (e:Int):Fix g k all (itP g k all all.length e):=by
 rcases aSc (g:=g) (k:=k) (all:=all) all.length e with h | h
 ·have:=bGr (itP g k all all.length e) all
  exact fun x hx _ _=>bEg (by omega) x hx
 ·exact h
theorem aQf {lo:Int}:∀ (n:Nat) (e:Int),(∀ t,lo <= t->t < e->qR g k all t=true)->∀ t,lo <= t->t < itP g k all n e->qR g k all t=true
 | 0,_,h=>h
 | n + 1,e,h=>aQf n _ (aRk all e (fun _ h=>h) h)
end
section
variable {N:Nat} {g:Int} {k:Nat} {all:List Rd} (hk:k <= 3) (hl:all.length <= 1000000000000) (hN:all.length < N) (hA:∀ x ∈ all,0 <= x.2.2.1/\x.2.2.1 < x.2.2.2/\x.2.2.2 <= 1402560)
include hk hl in
theorem rP {rec28:Int->Int->Int->Int->Int->(List Rd)->(List Rd)->Option (Int × (Int × (Int × ((List Rd) × (List Rd)))))} {n p:Int} {out:List Rd}:∀ (m i:Nat) (e:Int),i <= all.length->all.length - i < m ->
  lV N rec28 m g (k:Int) n e p (i:Int) all out=ck .i64 (p + 1) (rec28 g (k:Int) n (pas g k (all.drop i) e) (p + 1) all out)
 | 0,_,_,_,h=>absurd h (Nat.not_lt_zero _)
 | m + 1,i,e,h1,h=>by
  show lR N rec28 (lV N rec28 m) g _ n e p _ all out=_
  unfold lR
  by_cases hlt:i < all.length
  ·have g1:(0:Int) <= (i:Int):=by omega
   have g2:(i:Int) < ((all.length:Nat):Int):=by omega
   rw [fX hlt,aG,List.drop_eq_getElem_cons hlt]
   simp only [aO g1,aO g2,Int.toNat_natCast,wQ (bU hlt),aQt hk,aL,aR]
   have e1:(if? (all[i].1 == g) (if? (decide ((bits .and .i64 all[i].2.1 (1 * 2 ^ k)) > 0)) (some (g,(k:Int),n,e,p,(i:Int),decide (all[i].2.2.1 <= e),all,out)) (some (g,(k:Int),n,e,p,(i:Int),false,all,out))) (some (g,(k:Int),n,e,p,(i:Int),false,all,out)))=some (g,(k:Int),n,e,p,(i:Int),(inS g k all[i] && decide (all[i].2.2.1 <= e)),all,out):=by
    unfold inS aEt
    cases (all[i].1 == g) <;> cases (decide ((bits .and .i64 all[i].2.1 (1 * 2 ^ k)) > 0)) <;> rfl
   rw [e1]
   simp only [aL]
   rw [pas]
   cases hb:(inS g k all[i] && decide (all[i].2.2.1 <= e)) with
   | true =>
    simp only [aG,aO g1,aO g2,Int.toNat_natCast,wQ (bU hlt),aR,aL,if_true]
    rw [bV (by omega) (by omega),show ((i:Int) + 1)=((i + 1:Nat):Int) by omega]
    exact rP m (i + 1) _ (by omega) (by omega)
   | false =>
    simp only [aC,aR,aL,Bool.false_eq_true,if_false]
    rw [bV (by omega) (by omega),show ((i:Int) + 1)=((i + 1:Nat):Int) by omega]
    exact rP m (i + 1) _ (by omega) (by omega)
  ·rw [gI hlt,aC,List.drop_of_length_le (by omega),aR,aR];rfl
include hk hl hN in
theorem zI {n:Int} {out:List Rd} (ho:out.length <= 1000000000000):∀ (m p:Nat) (e:Int),p <= all.length->all.length - p < m ->
  eQ N m g (k:Int) n e (p:Int) all out=some (g,(k:Int),n,all,out ++ [(g,1 * 2 ^ k,n,itP g k all (all.length - p) e)])
 | 0,_,_,_,h=>absurd h (Nat.not_lt_zero _)
 | m + 1,p,e,h1,h=>by
  show lO N (eQ N m) g _ n e _ all out=_
  unfold lO
  by_cases hlt:p < all.length
  ·have h3:=rP (N:=N) (g:=g) (rec28:=eQ N m) (n:=n) (p:=(p:Int)) (out:=out) hk hl N 0 e (Nat.zero_le _) (by omega)
   rw [List.drop_zero] at h3
   rw [fX hlt,aG,aR,aR]
   refine Eq.trans h3 ?_
   rw [bV (by omega) (by omega),show ((p:Int) + 1)=((p + 1:Nat):Int) by omega,zI ho m (p + 1) _ (by omega) (by omega),show all.length - p=(all.length - (p + 1)) + 1 by omega]
   rfl
  ·rw [gI hlt,aC,aQt hk]
   simp only [aL,aR]
   rw [aO (by simp only [List.length_cons,List.length_nil];omega),show all.length - p=0 by omega]
   rfl
include hk hl hN hA in
theorem rO {rec4:Int->Int->Int->(List Rd)->(List Rd)->Option ((List Rd) × (List Rd))} {a:Int} {out:List Rd} (ho:out.length <= 1000000000000):∀ (m i:Nat) (n:Int),i <= all.length->all.length - i < m ->
  eX N rec4 m g (k:Int) a n (i:Int) all out=(if nxt g k all a (all.drop i) n < 1402560 then rec4 g (k:Int) (nxt g k all a (all.drop i) n) all (out ++ [(g,1 * 2 ^ k,nxt g k all a (all.drop i) n,itP g k all all.length (nxt g k all a (all.drop i) n))]) else rec4 g (k:Int) (nxt g k all a (all.drop i) n) all out)
 | 0,_,_,_,h=>absurd h (Nat.not_lt_zero _)
 | m + 1,i,n,h1,h=>by
  show lU N rec4 (eX N rec4 m) g _ a n _ all out=_
  unfold lU
  by_cases hlt:i < all.length
  ·have g1:(0:Int) <= (i:Int):=by omega
   have g2:(i:Int) < ((all.length:Nat):Int):=by omega
   have hx:=hA _ (List.getElem_mem hlt)
   rw [fX hlt,aG,List.drop_eq_getElem_cons hlt]
   simp only [aO g1,aO g2,Int.toNat_natCast,wQ (bU hlt),aQt hk,aL,aR]
   have e1:(if? (all[i].1 == g) (if? (decide ((bits .and .i64 all[i].2.1 (1 * 2 ^ k)) > 0)) (some (g,(k:Int),a,n,(i:Int),decide (all[i].2.2.1 > a),all,out)) (some (g,(k:Int),a,n,(i:Int),false,all,out))) (some (g,(k:Int),a,n,(i:Int),false,all,out)))=some (g,(k:Int),a,n,(i:Int),(inS g k all[i] && decide (all[i].2.2.1 > a)),all,out):=by
    unfold inS aEt
    cases (all[i].1 == g) <;> cases (decide ((bits .and .i64 all[i].2.1 (1 * 2 ^ k)) > 0)) <;> rfl
   rw [e1]
   simp only [aL,aO g1,aO g2,Int.toNat_natCast,wQ (bU hlt)]
   rw [bV (by omega) (by omega),aPj hk hl hN]
   simp only [aL,aR]
   have e2:(if? (inS g k all[i] && decide (all[i].2.2.1 > a)) (some (g,(k:Int),a,n,(i:Int),(!qR g k all (all[i].2.2.1 - 1)),all,out)) (some (g,(k:Int),a,n,(i:Int),false,all,out)))=some (g,(k:Int),a,n,(i:Int),aGf g k all a all[i],all,out):=by
    unfold aGf
    cases (inS g k all[i] && decide (all[i].2.2.1 > a)) <;> rfl
   rw [e2]
   simp only [aL]
   rw [nxt]
   cases hb:aGf g k all a all[i] with
   | true =>
    simp only [aG,aO g1,aO g2,Int.toNat_natCast,wQ (bU hlt),aR,aL,if_true]
    rw [bV (by omega) (by omega),show ((i:Int) + 1)=((i + 1:Nat):Int) by omega]
    exact rO ho m (i + 1) _ (by omega) (by omega)
   | false =>
    simp only [aC,aR,aL,Bool.false_eq_true,if_false]
    rw [bV (by omega) (by omega),show ((i:Int) + 1)=((i + 1:Nat):Int) by omega]
    exact rO ho m (i + 1) _ (by omega) (by omega)
  ·rw [gI hlt,aC,List.drop_of_length_le (by omega)]
   show _=(if n < 1402560 then rec4 g (k:Int) n all (out ++ [(g,1 * 2 ^ k,n,itP g k all all.length n)]) else rec4 g (k:Int) n all out)
   by_cases hn:n < 1402560
   ·rw [decide_eq_true hn,if_pos hn,aG,aR,aR]
    have h2:=zI (N:=N) (g:=g) (k:=k) (n:=n) (out:=out) hk hl hN ho N 0 n (Nat.zero_le _) (by omega)
    have h2:eQ N N g (k:Int) n n 0 all out=_:=h2
    rw [h2]
    simp only [aL,aR]
    rfl
   ·rw [decide_eq_false hn,if_neg hn,aC,aR,aR]
    simp only [aL,aR]
def stn (a:Int) (r:List Rd):Nat:=(r.filter fun x=>decide (a < x.2.2.1)).length
theorem aWl {a b:Int} (h:a <= b):∀ r:List Rd,stn b r <= stn a r
 | []=>Nat.le_refl _
 | x :: r=>by
  have:=aWl h r
  unfold stn at *
  rw [List.filter_cons,List.filter_cons]
  by_cases h1:b < x.2.2.1
  ·rw [if_pos (decide_eq_true h1),if_pos (decide_eq_true (show a < x.2.2.1 by omega))];simp;exact this
  ·rw [if_neg (by rw [decide_eq_false h1];exact Bool.false_ne_true)]
   split
   ·simp;omega
   ·exact this
theorem aYy {a b:Int} (h:a <= b):∀ r:List Rd,(∃ x ∈ r,a < x.2.2.1/\x.2.2.1 <= b)->stn b r < stn a r
 | [],⟨_,h,_⟩=>by cases h
 | x :: r,⟨y,hy,h1,h2⟩=>by
  rcases List.mem_cons.1 hy with rfl | hy
  ·have:=aWl h r
   unfold stn at *
   rw [List.filter_cons,List.filter_cons,if_neg (by rw [decide_eq_false (show ¬ b < y.2.2.1 by omega)];exact Bool.false_ne_true),if_pos (decide_eq_true h1)]
   simp;omega
  ·have:=aYy h r ⟨y,hy,h1,h2⟩
   unfold stn at *
   rw [List.filter_cons,List.filter_cons]
   by_cases h3:b < x.2.2.1
   ·rw [if_pos (decide_eq_true h3),if_pos (decide_eq_true (show a < x.2.2.1 by omega))];simp;exact this
   ·rw [if_neg (by rw [decide_eq_false h3];exact Bool.false_ne_true)]
    split
    ·simp;omega
    ·exact this
include hA in
theorem aVv {e:Int} (hf:Fix g k all e):∀ (w:Nat) (t:Int),t=e + (w:Int)->qR g k all t=true->∃ x ∈ all,inS g k x=true/\e < x.2.2.1/\x.2.2.1 <= t/\qR g k all (x.2.2.1 - 1)=false:=by
 intro w
 induction w using Nat.strongRecOn with
 | _ w ih =>
  intro t ht hc
  obtain ⟨x,hx,hs,h1,h2⟩:=yQ.1 hc
  have he:e < x.2.2.1:=by
   rcases Int.lt_or_le e x.2.2.1 with q | q
   ·exact q
   ·have:=hf x hx hs q;omega
  cases hb:qR g k all (x.2.2.1 - 1) with
  | false=>exact ⟨x,hx,hs,he,h1,hb⟩
  | true =>
   obtain ⟨y,hy,q1,q2,q3,q4⟩:=ih (x.2.2.1 - 1 - e).toNat (by omega) (x.2.2.1 - 1) (by omega) hb
   exact ⟨y,hy,q1,q2,by omega,q4⟩
include hk hl hN hA in
theorem aAu:∀ (m:Nat) (a e:Int) (out:List Rd),stn a all + 1 < m->-1 <= a->a < 1402560->out.length + stn a all <= 1000000000000->a <= e->Fix g k all e->(∀ t,a <= t->t < e->qR g k all t=true) ->
  ∃ R,cE N m g (k:Int) a all out=some (all,out ++ R)/\(∀ x ∈ R,x.1=g/\x.2.1=1 * 2 ^ k/\e < x.2.2.1/\x.2.2.1 < x.2.2.2)/\R.Pairwise (fun x y=>x.2.2.2 < y.2.2.1)/\R.length <= stn a all/\∀ t,(∃ x ∈ R,x.2.2.1 <= t/\t < x.2.2.2) ↔ qR g k all t=true/\e <= t
 | 0,_,_,_,h,_,_,_,_,_,_=>absurd h (Nat.not_lt_zero _)
 | m + 1,a,e,out,h,ha,hb,ho,hae,hf,hcv=>by
  have hstep:cE N (m + 1) g (k:Int) a all out=eX N (cE N m) N g (k:Int) a 1402560 0 all out:=by
   show eT N (cE N m) g _ a all out=_
   unfold eT
   rw [decide_eq_true hb,aG,aR,aR]
  have h1:=rO (N:=N) (g:=g) (k:=k) (rec4:=cE N m) (a:=a) (out:=out) hk hl hN hA (by omega) N 0 1402560 (Nat.zero_le _) (by omega)
  rw [List.drop_zero] at h1
  have h1:eX N (cE N m) N g (k:Int) a 1402560 0 all out=_:=h1
  rw [hstep,h1]
  obtain ⟨n1,n2,n3⟩:=aMw (g:=g) (k:=k) (all:=all) a all 1402560
  generalize nxt g k all a all 1402560=n at n1 n2 n3
  by_cases hn:n < 1402560
  ·rw [if_pos hn]
   rcases n3 with n3 | ⟨x,hx,hc,n3⟩
   ·omega
   ·unfold aGf at hc
    rw [Bool.and_eq_true,Bool.and_eq_true,decide_eq_true_eq,Bool.not_eq_true'] at hc
    obtain ⟨⟨hs,hxa⟩,hnc⟩:=hc
    have hxe:e < x.2.2.1:=by
     rcases Int.lt_or_le e x.2.2.1 with q | q
     ·exact q
     ·have:=hcv (x.2.2.1 - 1) (by omega) (by omega)
      rw [this] at hnc;cases hnc
    have hlen:0 < all.length:=List.length_pos_of_mem hx
    have hend:x.2.2.2 <= itP g k all all.length n:=by
     obtain ⟨w,hw⟩:∃ w,all.length=w + 1:=⟨all.length - 1,by omega⟩
     rw [hw]
     unfold itP
     exact Int.le_trans (aEk all n x hx hs (by omega)) (aXh w _)
    have hx2:=hA x hx
    have hfx:=bAn (g:=g) (k:=k) (all:=all) n
    have hcov:=aQf (g:=g) (k:=k) (all:=all) (lo:=n) all.length n (fun t q1 q2=>by omega)
    have hst:stn n all < stn a all:=aYy (by omega) all ⟨x,hx,hxa,by omega⟩
    obtain ⟨R,r1,r2,r3,r4,r5⟩:=aAu m n (itP g k all all.length n) (out ++ [(g,1 * 2 ^ k,n,itP g k all all.length n)]) (by omega) (by omega) hn (by simp only [List.length_append,List.length_cons,List.length_nil];omega) (by omega) hfx hcov
    refine ⟨(g,1 * 2 ^ k,n,itP g k all all.length n) :: R,by rw [r1,List.append_assoc];rfl,fun y hy=>?_,?_,by simp;omega,fun t=>?_⟩
    ·rcases List.mem_cons.1 hy with rfl | hy
     ·exact ⟨rfl,rfl,by show e < n;omega,by show n < itP g k all all.length n;omega⟩
     ·obtain ⟨q1,q2,q3,q4⟩:=r2 y hy
      exact ⟨q1,q2,by omega,q4⟩
    ·exact List.pairwise_cons.2 ⟨fun y hy=>(r2 y hy).2.2.1,r3⟩
    ·constructor
     ·rintro ⟨y,hy,q1,q2⟩
      rcases List.mem_cons.1 hy with rfl | hy
      ·exact ⟨hcov t q1 q2,by have q1:n <= t:=q1;omega⟩
      ·obtain ⟨q3,q4⟩:=(r5 t).1 ⟨y,hy,q1,q2⟩
       exact ⟨q3,by omega⟩
     ·rintro ⟨q1,q2⟩
      by_cases q3:t < itP g k all all.length n
      ·obtain ⟨y,hy,y1,y2,y3,y4⟩:=aVv hA hf (t - e).toNat t (by omega) q1
       have:n <= y.2.2.1:=n2 y hy (by
        unfold aGf
        rw [Bool.and_eq_true,Bool.and_eq_true,decide_eq_true_eq,Bool.not_eq_true']
        exact ⟨⟨y1,by omega⟩,y4⟩)
       exact ⟨_,List.mem_cons_self,by show n <= t;omega,q3⟩
      ·obtain ⟨y,hy,z⟩:=(r5 t).2 ⟨q1,by omega⟩
       exact ⟨y,List.mem_cons_of_mem _ hy,z⟩
  ·rw [if_neg hn]
   have hn0:n=1402560:=by omega
   obtain ⟨m',rfl⟩:∃ m',m=m' + 1:=⟨m - 1,by omega⟩
   refine ⟨[],?_,(fun _ h=>by cases h),List.Pairwise.nil,Nat.zero_le _,fun t=>⟨(by rintro ⟨_,h,_⟩;cases h),fun ⟨q1,q2⟩=>?_⟩⟩
   ·show eT N (cE N m') g _ n all out=_
    unfold eT
    rw [decide_eq_false hn,aC,aR,List.append_nil]
   ·obtain ⟨y,hy,y1,y2,y3,y4⟩:=aVv hA hf (t - e).toNat t (by omega) q1
    have:=n2 y hy (by
     unfold aGf
     rw [Bool.and_eq_true,Bool.and_eq_true,decide_eq_true_eq,Bool.not_eq_true']
     exact ⟨⟨y1,by omega⟩,y4⟩)
    have:=hA y hy
    omega
include hk hl hN hA in
theorem aTq (hN2:all.length + 1 < N):∃ R,kS N g (k:Int) all=some (all,R)/\(∀ x ∈ R,x.1=g/\x.2.1=1 * 2 ^ k/\x.2.2.1 < x.2.2.2)/\R.Pairwise (fun x y=>x.2.2.2 < y.2.2.1)/\R.length <= all.length/\∀ t,(∃ x ∈ R,x.2.2.1 <= t/\t < x.2.2.2) ↔ qR g k all t=true:=by
 have hst:stn (-1) all <= all.length:=List.length_filter_le _ _
 obtain ⟨R,r1,r2,r3,r4,r5⟩:=aAu (N:=N) (g:=g) (k:=k) hk hl hN hA N (-1) (-1) [] (by omega) (by omega) (by omega) (by simp only [List.length_nil];omega) (by omega) (fun x hx _ q=>by have:=hA x hx;omega) (fun t _ _=>by omega)
 refine ⟨R,by unfold kS;rw [aR];exact r1,fun x hx=>⟨(r2 x hx).1,(r2 x hx).2.1,(r2 x hx).2.2.2⟩,r3,by omega,fun t=>(r5 t).trans ⟨fun q=>q.1,fun q=>⟨q,?_⟩⟩⟩
 obtain ⟨x,hx,_,h1,_⟩:=yQ.1 q
 have:=hA x hx
 omega
end
def sep (x y:Rd):Prop:=x.1 < y.1\/x.1=y.1/\(x.2.1 < y.2.1\/x.2.1=y.2.1/\x.2.2.2 < y.2.2.1)
theorem aFi {α:Type} {R:α->α->Prop}:∀ {l:List α},l.Pairwise R->∀ {x y:α},x ∈ l->y ∈ l->x=y\/R x y\/R y x
 | [],_,_,_,h,_=>by cases h
 | a :: l,h,x,y,hx,hy=>by
  have h:=List.pairwise_cons.1 h
  rcases List.mem_cons.1 hx with ex | hx
  ·rcases List.mem_cons.1 hy with ey | hy
   ·exact .inl (ex.trans ey.symm)
   ·rw [ex];exact .inr (.inl (h.1 y hy))
  ·rcases List.mem_cons.1 hy with ey | hy
   ·rw [ey];exact .inr (.inr (h.1 x hx))
   ·exact aFi h.2 hx hy
theorem aQk:∀ {A B:List Rd},A.Pairwise sep->B.Pairwise sep->(∀ x ∈ A,x.2.2.1 < x.2.2.2)->(∀ x ∈ B,x.2.2.1 < x.2.2.2)->(∀ x,x ∈ A ↔ x ∈ B)->A=B
 | [],[],_,_,_,_,_=>rfl
 | [],b :: r,_,_,_,_,h=>absurd ((h b).2 List.mem_cons_self) (by simp)
 | a :: r,[],_,_,_,_,h=>absurd ((h a).1 List.mem_cons_self) (by simp)
 | a :: r,b :: r',h1,h2,n1,n2,h=>by
  have ab:a=b:=by
   rcases List.mem_cons.1 ((h a).1 List.mem_cons_self) with e | e
   ·exact e
   ·rcases List.mem_cons.1 ((h b).2 List.mem_cons_self) with e' | e'
    ·exact e'.symm
    ·have q1:=List.rel_of_pairwise_cons h2 e
     have q2:=List.rel_of_pairwise_cons h1 e'
     have q3:=n1 a List.mem_cons_self
     have q4:=n2 b List.mem_cons_self
     unfold sep at q1 q2
     omega
  subst ab
  have na:=n1 a List.mem_cons_self
  congr 1
  refine aQk h1.tail h2.tail (fun x hx=>n1 x (List.mem_cons_of_mem _ hx)) (fun x hx=>n2 x (List.mem_cons_of_mem _ hx)) fun x=>⟨fun hx=>?_,fun hx=>?_⟩
  ·have q:=List.rel_of_pairwise_cons h1 hx
   rcases List.mem_cons.1 ((h x).1 (List.mem_cons_of_mem _ hx)) with e | e
   ·subst e;unfold sep at q;omega
   ·exact e
  ·have q:=List.rel_of_pairwise_cons h2 hx
   rcases List.mem_cons.1 ((h x).2 (List.mem_cons_of_mem _ hx)) with e | e
   ·subst e;unfold sep at q;omega
   ·exact e
theorem aXk {A B:List Rd} (h1:A.Pairwise sep) (h2:B.Pairwise sep) (n1:∀ x ∈ A,x.2.2.1 < x.2.2.2) (n2:∀ x ∈ B,x.2.2.1 < x.2.2.2) (hc:∀ g kb t,aOw A g kb t ↔ aOw B g kb t) {x:Rd} (hx:x ∈ A):x ∈ B:=by
 have nx:=n1 x hx
 obtain ⟨y,hy,e1,e2,e3,e4⟩:=(hc x.1 x.2.1 x.2.2.1).1 ⟨x,hx,rfl,rfl,Int.le_refl _,nx⟩
 have ny:=n2 y hy
 have key:y.2.2.1=x.2.2.1:=by
  rcases Int.lt_or_le y.2.2.1 x.2.2.1 with q | q
  ·obtain ⟨z,hz,z1,z2,z3,z4⟩:=(hc x.1 x.2.1 (x.2.2.1 - 1)).2 ⟨y,hy,e1,e2,by omega,by omega⟩
   have nz:=n1 z hz
   rcases aFi h1 hx hz with r | r | r
   ·subst r;omega
   ·unfold sep at r;omega
   ·unfold sep at r;omega
  ·omega
 have key2:y.2.2.2=x.2.2.2:=by
  rcases Int.lt_trichotomy y.2.2.2 x.2.2.2 with q | q | q
  ·obtain ⟨z,hz,z1,z2,z3,z4⟩:=(hc x.1 x.2.1 y.2.2.2).1 ⟨x,hx,rfl,rfl,by omega,by omega⟩
   have nz:=n2 z hz
   rcases aFi h2 hy hz with r | r | r
   ·subst r;omega
   ·unfold sep at r;omega
   ·unfold sep at r;omega
  ·exact q
  ·obtain ⟨z,hz,z1,z2,z3,z4⟩:=(hc x.1 x.2.1 x.2.2.2).2 ⟨y,hy,e1,e2,by omega,by omega⟩
   have nz:=n1 z hz
   rcases aFi h1 hx hz with r | r | r
   ·subst r;omega
   ·unfold sep at r;omega
   ·unfold sep at r;omega
 have:y=x:=by
  obtain ⟨x1,x2,x3,x4⟩:=x
  obtain ⟨y1,y2,y3,y4⟩:=y
  simp only at e1 e2 key key2
  rw [e1,e2,key,key2]
 rw [<- this];exact hy
theorem aV0 {A B:List Rd} (h1:A.Pairwise sep) (h2:B.Pairwise sep) (n1:∀ x ∈ A,x.2.2.1 < x.2.2.2) (n2:∀ x ∈ B,x.2.2.1 < x.2.2.2) (hc:∀ g kb t,aOw A g kb t ↔ aOw B g kb t):A=B :=
 aQk h1 h2 n1 n2 fun _=>⟨aXk h1 h2 n1 n2 hc,aXk h2 h1 n2 n1 fun g kb t=>(hc g kb t).symm⟩
theorem aZz {l:List De} (hr:∀ d ∈ l,cR d=true) (id:Int):(rds l id).Pairwise sep:=by
 have hs:=mJ aYf (oX (vO l id) (xX (vO l id)))
 have ha:Apt (rds l id):=(aBd (qV hr id) (xQ l id)).perm (iA _ _).symm
 have hs:(rds l id).Pairwise (fun a b=>ltOf cfR b a=false):=hs
 refine List.Pairwise.imp_of_mem (R:=fun a b=>ltOf cfR b a=false/\(ltOf cfR a b || ltOf cfR b a)=true) (fun {x y} hx hy q=>?_) (hs.and ha)
 obtain ⟨q1,q2⟩:=q
 rw [q1,Bool.or_false,ltR,decide_eq_true_eq] at q2
 unfold zY at q2
 obtain ⟨k,hk⟩:=xW.1 hx
 obtain ⟨u,hu,ex⟩:=List.mem_map.1 hk
 obtain ⟨k',hk'⟩:=xW.1 hy
 obtain ⟨v,hv,ey⟩:=List.mem_map.1 hk'
 have a1:x.1=g0 k:=by rw [<- ex];rfl
 have a2:x.2.1=g1 k:=by rw [<- ex];rfl
 have a3:x.2.2.1=u.1:=by rw [<- ex];rfl
 have a4:x.2.2.2=u.2:=by rw [<- ex];rfl
 have b1:y.1=g0 k':=by rw [<- ey];rfl
 have b2:y.2.1=g1 k':=by rw [<- ey];rfl
 have b3:y.2.2.1=v.1:=by rw [<- ey];rfl
 unfold sep
 by_cases e:g0 k=g0 k'/\g1 k=g1 k'
 ·have ek:=aUq e.1 e.2
  subst ek
  obtain ⟨i1,i2,_⟩:=aFc (qV hr id k)
  have hvv:=i2 v hv
  rcases aFi i1 hu hv with r | r | r
  ·subst r;omega
  ·omega
  ·omega
 ·omega
def ndR:List De->List Int->List De
 | [],_=>[]
 | d :: r,need=>if d.1 ∈ need then d :: ndR r (need ++ d.2.2) else ndR r need
theorem aOa:∀ (r:List De) (need:List Int) (mp:MB),(∀ x,x ∈ need ↔ has mp x=true)->ndR r need=ndl r mp
 | [],_,_,_=>rfl
 | d :: r,need,mp,h=>by
  unfold ndR ndl
  by_cases hd:d.1 ∈ need
  ·rw [if_pos hd,if_pos ((h _).1 hd),aOa r _ (inM mp d.2.2) fun x=>by rw [List.mem_append,aBp,Bool.or_eq_true,decide_eq_true_eq,h]]
  ·rw [if_neg hd,if_neg fun q=>hd ((h _).2 q),aOa r _ _ h]
theorem uJ {N:Nat} {l:List De} (hl:l.length <= 100000) (hR:∀ d ∈ l,d.2.1.length <= 100/\d.2.2.length <= 100) (hN:100 * l.length + 1 < N):∀ (m k:Nat) (need:List Int) (out:List Rd),k <= l.length->k < m->need.length <= 1 + 100 * (l.length - k)->out.length <= 100 * (l.length - k) ->
  iX N m l ((k:Int) - 1) need out=some (out ++ (ndR (l.take k).reverse need).flatMap (·.2.1))
 | 0,_,_,_,_,h,_,_=>absurd h (Nat.not_lt_zero _)
 | m + 1,0,need,out,h1,h,hn,ho=>by
  show fL N (iX N m) l (((0:Nat):Int) - 1) need out=_
  unfold fL
  rw [decide_eq_false (by omega),aC,aR]
  simp [ndR]
 | m + 1,k + 1,need,out,h1,h,hn,ho=>by
  have hk:k < l.length:=by omega
  obtain ⟨r1,r2⟩:=hR _ (List.getElem_mem hk)
  show fL N (iX N m) l _ need out=_
  unfold fL
  have hrev:(l.take (k + 1)).reverse=l[k] :: (l.take k).reverse:=by rw [<- List.take_append_getElem hk,List.reverse_append];rfl
  rw [show (((k + 1:Nat):Int) - 1)=(k:Int) by omega,decide_eq_true (by omega),aG,bM (bU hk),aR,aQ8 (by omega) (by omega),hrev,ndR]
  simp only [aL,bM (bU hk),aR]
  by_cases hb:l[k].1 ∈ need
  ·rw [decide_eq_true hb,if_pos hb,aG,aO (by omega),aO (by omega)]
   simp only [aR,aL]
   rw [bV (by omega) (by omega),uJ hl hR hN m k _ _ (by omega) (by omega) (by rw [List.length_append];omega) (by rw [List.length_append];omega)]
   simp
  ·rw [decide_eq_false hb,if_neg hb,aC]
   simp only [aL,aR]
   rw [bV (by omega) (by omega),uJ hl hR hN m k _ _ (by omega) (by omega) (by omega) (by omega)]
def aGr (l:List De) (id:Int):List Rd:=(ndl l.reverse (bY [] id true)).flatMap (·.2.1)
theorem aT3 {N:Nat} {l:List De} (hl:l.length <= 100000) (hR:∀ d ∈ l,d.2.1.length <= 100/\d.2.2.length <= 100) (hN:100 * l.length + 1 < N) (id:Int):mD N l id=some (aGr l id):=by
 unfold mD aGr
 have hp:∀ x,x ∈ [id] ↔ has (bY [] id true) x=true:=fun x=>by
  rw [nW,List.mem_singleton]
  constructor
  ·rintro rfl;rw [if_pos rfl]
  ·intro q
   split at q
   ·assumption
   ·simp [has,bL] at q
 rw [bV (by omega) (by omega),uJ hl hR hN N l.length [id] [] (Nat.le_refl _) (by omega) (by simp) (by simp),List.take_length,aOa _ _ (bY [] id true) hp]
 simp
theorem aWm {l:List De} (hc:chk l=0) {k:Nat} (hk:k < l.length) {p:Rd->Prop}:(∃ x ∈ aGr l l[k].1,p x) ↔ Aff l (fun e=>∃ x ∈ e.2.1,p x) l[k]:=by
 have hs:=dS hc
 have:=aDf hc (T:=fun e=>∃ x ∈ e.2.1,p x) l.length (bY [] l[k].1 true) (Nat.le_refl _)
 rw [List.take_length] at this
 unfold aGr
 constructor
 ·rintro ⟨x,hx,q⟩
  obtain ⟨e,he,hx⟩:=List.mem_flatMap.1 hx
  obtain ⟨j,hj,_,h1,h2⟩:=this.1 ⟨e,he,x,hx,q⟩
  rw [nW] at h1
  split at h1
  ·rename_i e
   have:=kX hs hj hk e
   subst this;exact h2
  ·simp [has,bL] at h1
 ·intro h
  obtain ⟨e,he,x,hx,q⟩:=this.2 ⟨k,hk,hk,by rw [nW,if_pos rfl],h⟩
  exact ⟨x,List.mem_flatMap.2 ⟨e,he,hx⟩,q⟩
theorem aYi {l:List De} {id:Int} {x:Rd} (h:x ∈ aGr l id):∃ d ∈ l,x ∈ d.2.1:=by
 obtain ⟨e,he,hx⟩:=List.mem_flatMap.1 h
 exact ⟨e,List.mem_reverse.1 (aAs he),hx⟩
theorem aXm {l:List De} {id:Int} {R:Nat} (hR:∀ d ∈ l,d.2.1.length <= R):(aGr l id).length <= l.length * R:=by
 unfold aGr
 have h2:((ndl l.reverse (bY [] id true)).flatMap (·.2.1)).length <= (ndl l.reverse (bY [] id true)).length * R:=pM fun d hd=>hR d (List.mem_reverse.1 (aAs hd))
 have h3:=aAj l.reverse (bY [] id true)
 rw [List.length_reverse] at h3
 have h4:=Nat.mul_le_mul_right R h3
 omega
theorem aNc {l:List De} (hc:chk l=0) {k:Nat} (hk:k < l.length) {g t:Int} {j:Nat} (hj:j <= 3):aOw (rds l l[k].1) g (1 * 2 ^ j) t ↔ qR g j (aGr l l[k].1) t=true:=by
 rw [aRe (oA hc),yQ,aWm hc hk (p:=fun x=>inS g j x=true/\x.2.2.1 <= t/\t < x.2.2.2),<- aTc hc hk]
 constructor
 ·rintro ⟨d,hd,x,hx,rfl,⟨i,hi,h1,h2⟩,h3⟩
  have:=aQj hi hj h2
  subst this
  exact ⟨d,hd,x,hx,by unfold inS;rw [h1];simp,h3⟩
 ·rintro ⟨d,hd,x,hx,h1,h3⟩
  unfold inS at h1
  rw [Bool.and_eq_true,beq_iff_eq] at h1
  exact ⟨d,hd,x,hx,h1.1,⟨j,hj,h1.2,rfl⟩,h3⟩
theorem aZo {l:List De} (hr:∀ d ∈ l,cR d=true) {id:Int} {x:Rd} (hx:x ∈ rds l id):0 <= x.1/\x.1 < 40/\∃ j,j <= 3/\x.2.1=1 * 2 ^ j:=by
 obtain ⟨d,hd,y,hy,h1,⟨j,hj,_,h2⟩,_⟩:=(aRe hr (t:=x.2.2.1)).1 ⟨x,hx,rfl,rfl,Int.le_refl _,aQ5 hr hx⟩
 have:=aO6 hr (vG hd) hy
 exact ⟨by omega,by omega,j,hj,h2.symm⟩
structure Pst (all out:List Rd) (g k:Nat):Prop where
 pw:out.Pairwise sep
 ne:∀ x ∈ out,x.2.2.1 < x.2.2.2
 lt:∀ x ∈ out,0 <= x.1/\(x.1 < (g:Int)\/x.1=(g:Int)/\x.2.1 < 1 * 2 ^ k)
 ky:∀ x ∈ out,∃ j,j <= 3/\x.2.1=1 * 2 ^ j
 cv:∀ (g' k':Nat),k' <= 3->(g' < g\/g'=g/\k' < k)->∀ t,aOw out (g':Int) (1 * 2 ^ k') t ↔ qR (g':Int) k' all t=true
 len:out.length <= all.length * (4 * g + k)
theorem aQu {i j:Nat} (hi:i <= 3) (hj:j <= 4):((1 * 2 ^ i:Int) < 1 * 2 ^ j) ↔ i < j:=by
 have key:∀ i < 4,∀ j < 5,((1 * 2 ^ i:Int) < 1 * 2 ^ j) ↔ i < j:=by decide
 exact key i (by omega) j (by omega)
theorem zW {N:Nat} {all:List Rd} {rec6:Int->Int->(List Rd)->(List Rd)->(List Rd)->Option ((List Rd) × Int)} {z:Int} {e:List Rd} {g:Nat} (hg:g < 40) (hl:all.length <= 1000000) (hN:all.length + 1 < N) (hA:∀ x ∈ all,0 <= x.2.2.1/\x.2.2.1 < x.2.2.2/\x.2.2.2 <= 1402560):∀ (m k:Nat) (out:List Rd),k <= 4->4 - k < m->Pst all out g k ->
  ∃ out',dU N rec6 m (g:Int) (k:Int) z all out e=rec6 ((g:Int) + 1) z all out' e/\Pst all out' g 4
 | 0,_,_,_,h,_=>absurd h (Nat.not_lt_zero _)
 | m + 1,k,out,h1,h,hp=>by
  have hmul:all.length * (4 * g + k) <= 1000000 * 200:=Nat.mul_le_mul hl (by omega)
  have hlen:=hp.len
  by_cases hk4:k < 4
  ·obtain ⟨R,j1,j2,j3,j4,j5⟩:=aTq (N:=N) (g:=(g:Int)) (k:=k) (all:=all) (by omega) (by omega) (by omega) hA hN
   have hstep:dU N rec6 (m + 1) (g:Int) (k:Int) z all out e=dU N rec6 m (g:Int) ((k + 1:Nat):Int) z all (out ++ R) e:=by
    show fP N rec6 (dU N rec6 m) _ _ z all out e=_
    unfold fP
    rw [decide_eq_true (show (k:Int) < 4 by omega),aG,aR,j1]
    simp only [aL,aR]
    rw [aO (by omega),bV (by omega) (by omega),show ((k:Int) + 1)=((k + 1:Nat):Int) by omega]
   rw [hstep]
   refine zW hg hl hN hA m (k + 1) (out ++ R) (by omega) (by omega) ⟨?_,?_,?_,?_,?_,?_⟩
   ·refine List.pairwise_append.2 ⟨hp.pw,?_,fun x hx y hy=>?_⟩
    ·refine List.Pairwise.imp_of_mem (fun {x y} hx hy q=>?_) j3
     have q1:=j2 x hx
     have q2:=j2 y hy
     unfold sep;omega
    ·have q1:=(hp.lt x hx).2
     have q2:=j2 y hy
     unfold sep;omega
   ·intro x hx
    rcases List.mem_append.1 hx with hx | hx
    ·exact hp.ne x hx
    ·exact (j2 x hx).2.2
   ·intro x hx
    have h0:=(aQu (i:=k) (j:=k + 1) (by omega) (by omega)).2 (by omega)
    rcases List.mem_append.1 hx with hx | hx
    ·have:=hp.lt x hx
     omega
    ·have:=j2 x hx
     omega
   ·intro x hx
    rcases List.mem_append.1 hx with hx | hx
    ·exact hp.ky x hx
    ·exact ⟨k,by omega,(j2 x hx).2.1⟩
   ·intro g' k' hk' hlt t
    by_cases heq:g'=g/\k'=k
    ·obtain ⟨rfl,rfl⟩:=heq
     rw [<- j5 t]
     constructor
     ·rintro ⟨x,hx,x1,x2,x3⟩
      rcases List.mem_append.1 hx with hx | hx
      ·have:=(hp.lt x hx).2;omega
      ·exact ⟨x,hx,x3⟩
     ·rintro ⟨x,hx,x3⟩
      exact ⟨x,List.mem_append_right _ hx,(j2 x hx).1,(j2 x hx).2.1,x3⟩
    ·rw [<- hp.cv g' k' hk' (by omega) t]
     constructor
     ·rintro ⟨x,hx,x1,x2,x3⟩
      rcases List.mem_append.1 hx with hx | hx
      ·exact ⟨x,hx,x1,x2,x3⟩
      ·have q:=j2 x hx
       have:k'=k:=aQj hk' (by omega) (x2.symm.trans q.2.1)
       exact absurd ⟨by omega,this⟩ heq
     ·rintro ⟨x,hx,x3⟩
      exact ⟨x,List.mem_append_left _ hx,x3⟩
   ·rw [List.length_append,show 4 * g + (k + 1)=(4 * g + k) + 1 by omega,Nat.mul_succ]
    omega
  ·have hk:k=4:=by omega
   subst hk
   refine ⟨out,?_,hp⟩
   show fP N rec6 (dU N rec6 m) (g:Int) ((4:Nat):Int) z all out e=_
   unfold fP
   rw [decide_eq_false (by omega),aC,bV (by omega) (by omega),aR,aR,aR]
theorem yN {N:Nat} {all:List Rd} {z:Int} {e:List Rd} (hl:all.length <= 1000000) (hN:all.length + 1 < N) (hN5:5 <= N) (hA:∀ x ∈ all,0 <= x.2.2.1/\x.2.2.1 < x.2.2.2/\x.2.2.2 <= 1402560):∀ (m g:Nat) (out:List Rd),g <= 40->40 - g < m->Pst all out g 0 ->
  ∃ out',fO N m (g:Int) z all out e=some (out',0)/\Pst all out' 40 0
 | 0,_,_,_,h,_=>absurd h (Nat.not_lt_zero _)
 | m + 1,g,out,h1,h,hp=>by
  by_cases hg:g < 40
  ·obtain ⟨o1,e1,p1⟩:=zW (N:=N) (rec6:=fO N m) (z:=z) (e:=e) hg hl hN hA N 0 out (by omega) (by omega) hp
   have p2:Pst all o1 (g + 1) 0:=by
    refine ⟨p1.pw,p1.ne,fun x hx=>?_,p1.ky,fun g' k' hk' hlt t=>p1.cv g' k' hk' (by omega) t,?_⟩
    ·have:=p1.lt x hx;omega
    ·have:=p1.len
     rw [show 4 * (g + 1) + 0=4 * g + 4 by omega];exact this
   obtain ⟨o2,e2,p3⟩:=yN (z:=z) (e:=e) hl hN hN5 hA m (g + 1) o1 (by omega) (by omega) p2
   refine ⟨o2,?_,p3⟩
   show fK N (fO N m) _ z all out e=_
   unfold fK
   rw [decide_eq_true (by omega),aG,aR,aR,aR]
   refine Eq.trans e1 ?_
   rw [show ((g:Int) + 1)=((g + 1:Nat):Int) by omega]
   exact e2
  ·have hg:g=40:=by omega
   subst hg
   refine ⟨out,?_,hp⟩
   show fK N (fO N m) ((40:Nat):Int) z all out e=_
   unfold fK
   rw [decide_eq_false (by omega),aC,aR]
theorem aUa {N:Nat} {l:List De} (hf:Few N l) (hk:kOk l) (hl:l.length <= 2500) (hR:∀ d ∈ l,d.2.1.length <= 100/\d.2.2.length <= 100) (hN:100 * l.length + 1 < N) (hN5:50 <= N) (id:Int) :
  fU N l id=some (if chk l=0 then if id ∈ ids l then (rds l id,0) else ([],8) else ([],chk l)):=by
 unfold fU
 rw [nZ hf hk]
 simp only [aL]
 by_cases h:chk l=0
 ·rw [h,if_pos rfl]
  simp only [bne_self_eq_false,aC]
  obtain ⟨v,e1,e2⟩:=aO0 (id:=id) hf.big hf.len
  rw [e1]
  simp only [aL]
  rcases e2 with ⟨rfl,q⟩ | ⟨j,hj,rfl,rfl⟩
  ·rw [decide_eq_true (by omega),if_neg q];rfl
  ·rw [decide_eq_false (by omega),aC,if_pos (List.mem_map.2 ⟨_,List.getElem_mem hj,rfl⟩),aT3 (by omega) hR hN]
   simp only [aL,aR]
   have hal:=aXm (id:=l[j].1) fun d hd=>(hR d hd).1
   have hA:∀ x ∈ aGr l l[j].1,0 <= x.2.2.1/\x.2.2.1 < x.2.2.2/\x.2.2.2 <= 1402560:=fun x hx=>by
    obtain ⟨d,hd,hx⟩:=aYi hx
    have:=aO6 (oA h) hd hx
    omega
   obtain ⟨out,o1,o2⟩:=yN (N:=N) (all:=aGr l l[j].1) (z:=0) (e:=[]) (by omega) (by omega) (by omega) hA N 0 [] (by omega) (by omega)
    ⟨List.Pairwise.nil,(fun _ h=>by cases h),(fun _ h=>by cases h),(fun _ h=>by cases h),(fun _ _ _ q=>by omega),by simp⟩
   refine Eq.trans o1 ?_
   have:out=rds l l[j].1:=by
    refine aV0 o2.pw (aZz (oA h) _) o2.ne (fun x hx=>aQ5 (oA h) hx) fun g kb t=>?_
    constructor
    ·rintro ⟨x,hx,rfl,rfl,x3⟩
     have h1:=o2.lt x hx
     obtain ⟨i,hi,h2⟩:=o2.ky x hx
     have h3:¬ x.2.1 < 1 * 2 ^ 0:=by
      rw [h2]
      intro q
      exact absurd ((aQu hi (by omega)).1 q) (Nat.not_lt_zero _)
     rw [h2,aNc h hj hi]
     have:=(o2.cv x.1.toNat i hi (by omega) t).1 ⟨x,hx,by omega,h2,x3⟩
     rw [show ((x.1.toNat:Nat):Int)=x.1 by omega] at this
     exact this
    ·rintro ⟨x,hx,rfl,rfl,x3⟩
     obtain ⟨h1,h1',i,hi,h2⟩:=aZo (oA h) hx
     have:=(o2.cv x.1.toNat i hi (by omega) t).2 (by
      rw [show ((x.1.toNat:Nat):Int)=x.1 by omega,<- aNc h hj hi]
      exact ⟨x,hx,rfl,h2,x3⟩)
     rw [show ((x.1.toNat:Nat):Int)=x.1 by omega,<- h2] at this
     exact this
   rw [this]
 ·rw [if_neg h,show (chk l != 0)=true by simpa using h];rfl
theorem bAh {N:Nat} (hN:2010 < N) (l:List De) (cs:List Ch):∃ b,pE N l cs=some b/\(b=true->(∀ d ∈ l,eJ d)/\l.length <= 2010/\(l.length <= 16\/2000 < l.length)/\cs.length <= 8):=by
 unfold pE
 obtain ⟨b,hb,hs⟩:=aY4 hN l 16
 rw [hb]
 simp only [aL]
 cases b with
 | false=>exact ⟨false,rfl,fun e=>by cases e⟩
 | true =>
  refine ⟨_,rfl,fun e=>⟨hs rfl,?_,?_,by have:=of_decide_eq_true e;omega⟩⟩
  ·unfold fA at hb
   by_cases c1:((l.length:Nat):Int) > 16
   ·rw [decide_eq_true c1] at hb
    by_cases c2:((l.length:Nat):Int) <= 2000
    ·rw [decide_eq_true c2] at hb;simp at hb
    ·rw [decide_eq_false c2] at hb
     by_cases c3:((l.length:Nat):Int) > 2010
     ·rw [decide_eq_true c3] at hb;simp at hb
     ·omega
   ·omega
  ·unfold fA at hb
   by_cases c1:((l.length:Nat):Int) > 16
   ·rw [decide_eq_true c1] at hb
    by_cases c2:((l.length:Nat):Int) <= 2000
    ·rw [decide_eq_true c2] at hb;simp at hb
    ·omega
   ·omega
theorem tB {a:List Rd} (hl:a.length <= 4611686018427387904):∀ (m k:Nat),k <= a.length->a.length - k < m->iH m a a (k:Int)=some true
 | 0,_,_,h=>absurd h (Nat.not_lt_zero _)
 | m + 1,k,h1,h=>by
  show iI (iH m) a a _=_
  unfold iI
  by_cases hlt:k < a.length
  ·rw [fX hlt,aG,bM (bU hlt),bM (bU hlt)]
   simp only [beq_self_eq_true,aOc,Bool.and_self,Bool.not_true,aC]
   rw [bV (by omega) (by omega),show ((k:Int) + 1)=((k + 1:Nat):Int) by omega]
   exact tB hl m (k + 1) (by omega) (by omega)
  ·rw [gI hlt,aC]
theorem aAq {N:Nat} {a:List Rd} (hl:a.length <= 4611686018427387904) (hN:a.length < N):dB N a a=some true:=by
 unfold dB
 rw [bne_self_eq_false,aC]
 exact tB hl N 0 (Nat.zero_le _) (by omega)
theorem wA {a:List Int} (hl:a.length <= 4611686018427387904):∀ (m k:Nat),k <= a.length->a.length - k < m->jB m a a (k:Int)=some true
 | 0,_,_,h=>absurd h (Nat.not_lt_zero _)
 | m + 1,k,h1,h=>by
  show jF (jB m) a a _=_
  unfold jF
  by_cases hlt:k < a.length
  ·rw [fX hlt,aG,bM (bU hlt),bM (bU hlt),bne_self_eq_false,aC,bV (by omega) (by omega),show ((k:Int) + 1)=((k + 1:Nat):Int) by omega]
   exact wA hl m (k + 1) (by omega) (by omega)
  ·rw [gI hlt,aC]
theorem aNg {N:Nat} {a:List Int} (hl:a.length <= 4611686018427387904) (hN:a.length < N):gZ N a a=some true:=by
 unfold gZ
 rw [bne_self_eq_false,aC]
 exact wA hl N 0 (Nat.zero_le _) (by omega)
theorem aF0 {N:Nat} {a:List De} (hf:Few N a):∀ (m k:Nat),k <= a.length->a.length - k < m->oF N m a a (k:Int)=some true
 | 0,_,_,h=>absurd h (Nat.not_lt_zero _)
 | m + 1,k,h1,h=>by
  show oW N (oF N m) a a _=_
  unfold oW
  have hl:=hf.big
  by_cases hlt:k < a.length
  ·have hm:=List.getElem_mem hlt
   have hr:=hf.rd _ hm
   have ho:=hf.of _ hm
   rw [fX hlt,aG,bM (bU hlt),bM (bU hlt),aAq hr.2 hr.1]
   simp only [aL]
   rw [bM (bU hlt),bM (bU hlt),aNg ho.2 ho.1]
   simp only [aL,Bool.not_true,aC]
   rw [bM (bU hlt),bM (bU hlt),bne_self_eq_false]
   simp only [aL,aC]
   rw [bV (by omega) (by omega),show ((k:Int) + 1)=((k + 1:Nat):Int) by omega]
   exact aF0 hf m (k + 1) (by omega) (by omega)
  ·rw [gI hlt,aC]
theorem aU1 {N:Nat} {a:List De} (hf:Few N a):nQ N a a=some true:=by
 unfold nQ
 rw [bne_self_eq_false,aC]
 exact aF0 hf N 0 (Nat.zero_le _) (by have:=hf.len;omega)
section
variable {N:Nat} {l:List De} {rec6:(List De)->(List De)->Int->Int->(List De)->Option Bool} {k:Nat} (hk:k < l.length) (hf:Few N l) (hR:∀ d ∈ l,d.2.1.length <= 42) (ho:∀ d ∈ l,d.2.2.length <= 20) (hN:4 * (l.length * 42) < N) (hN5:5 <= N) (hl:l.length <= 30) (hc:chk l=0)
include hk hf hR ho hN hN5 hl hc in
end
def rdF (l:List De) (id:Int):Int × List Rd:=if chk l=0 then if id ∈ ids l then (0,rds l id) else (8,[]) else (chk l,[])
theorem aTy {N:Nat} {l:List De} (hf:Few N l) (hs:∀ d ∈ l,eJ d) (h16:l.length <= 16\/2000 < l.length) (hN:3000 <= N) (id:Int):dF N l id=some (rdF l id):=by
 rcases h16 with h | h
 ·exact aU3 hf (R:=42) (fun d hd=>(hs d hd).2) (by omega) (fun d hd=>by have:=(hs d hd).1;omega) (by omega) (by omega) (by omega) id
 ·have hc:chk l ≠ 0:=by
   unfold chk
   rw [if_pos h];decide
  unfold dF rdF
  rw [qK hf,if_neg hc]
  simp only [aL]
  rw [show (chk l != 0)=true by simpa using hc];rfl
theorem aOq {N:Nat} {l:List De} (hf:Few N l) (hk:kOk l) (hs:∀ d ∈ l,eJ d) (h16:l.length <= 16\/2000 < l.length) (hN:3000 <= N) (id:Int):fU N l id=some ((rdF l id).2,(rdF l id).1):=by
 rcases h16 with h | h
 ·rw [aUa hf hk (by omega) (fun d hd=>by have:=hs d hd;unfold eJ at this;omega) (by omega) (by omega) id]
  unfold rdF
  split
  ·split <;> rfl
  ·rfl
 ·have hc:chk l ≠ 0:=by
   unfold chk
   rw [if_pos h];decide
  unfold fU rdF
  rw [nZ hf hk,if_neg hc]
  simp only [aL]
  rw [show (chk l != 0)=true by simpa using hc];rfl
theorem aZu {l:List De} (hs:∀ d ∈ l,eJ d) (h16:l.length <= 16\/2000 < l.length) (id:Int):(rdF l id).2.length <= 2700:=by
 unfold rdF
 split
 ·rename_i hc
  split
  ·have:=aZm (l:=l) (R:=42) (fun d hd=>(hs d hd).2) id
   rcases h16 with h | h
   ·show (rds l id).length <= 2700;omega
   ·unfold chk at hc
    rw [if_pos h] at hc
    exact absurd hc (by decide)
  ·exact Nat.zero_le _
 ·exact Nat.zero_le _
def aTi (l:List De) (cs:List Ch):Int × List Int:=if chk l=0 then (0,clo l (inM [] (aG0 cs l))) else (chk l,[])
theorem aVg (l:List De) (cs:List Ch):(aTi l cs).2.length <= l.length:=by
 unfold aTi
 split
 ·exact zZ _ _
 ·exact Nat.zero_le _
theorem aOn (l:List De) (id:Int):(aBn l id).1.length <= l.length:=by
 unfold aBn
 split
 ·split
  ·show ((clo l (bY [] id true)).drop 1).length <= _
   have:=zZ l (bY [] id true)
   rw [List.length_drop];omega
  ·exact Nat.zero_le _
 ·exact Nat.zero_le _
theorem aXw {N:Nat} {l:List De} {d:De} (hs:∀ d ∈ l,eJ d) (hd:eJ d) (hl:l.length <= 2010) (hN:3000 <= N):Few N (aG2 l d).2:=by
 have h0:Few N []:=⟨by simp;omega,by simp,fun d hd=>by simp at hd,fun d hd=>by simp at hd⟩
 unfold aG2
 split
 ·split
  ·split
   ·exact h0
   ·split
    ·split
     ·exact h0
     ·refine ⟨by show (l ++ [d]).length < N;simp;omega,by show (l ++ [d]).length <= _;simp;omega,fun e he=>?_,fun e he=>?_⟩
      ·have he:e ∈ l ++ [d]:=he
       have:eJ e:=by
        rcases List.mem_append.1 he with he | he
        ·exact hs e he
        ·rw [List.mem_singleton.1 he];exact hd
       unfold eJ at this;omega
      ·have he:e ∈ l ++ [d]:=he
       have:eJ e:=by
        rcases List.mem_append.1 he with he | he
        ·exact hs e he
        ·rw [List.mem_singleton.1 he];exact hd
       unfold eJ at this;omega
    ·exact h0
  ·exact h0
 ·exact h0
theorem aIj {l A:List De} {cs:List Ch} {d:De} {F L:List Int} {R:List Rd} {e1 e2 e3 e4:Int} (hf:Few 6000 l) (hk:kOk l) (hA:Few 6000 A) (hd:eJ d) (hF:F.length < 6000) (hL:L.length < 6000) (hR:R.length < 6000) (hc:cs.length <= 8) (hS:gQ 6000=some true):∀ (m k:Nat),k <= cs.length->cs.length - k < m ->
  cV 6000 m l e1 e2 L e3 e4 cs ((cs.length:Nat):Int) (k:Int) d.1 d.2.1 d.2.2 A A e1 F F e2 L e3 R R e4=some true
 | 0,_,_,h=>absurd h (Nat.not_lt_zero _)
 | m + 1,k,h1,h=>by
  show cU 6000 (cV 6000 m) l e1 e2 L e3 e4 cs _ _ _ _ _ A A e1 F F e2 L e3 R R e4=_
  unfold cU
  have hd':=hd
  unfold eJ at hd'
  by_cases hlt:k < cs.length
  ·have t1:cL 6000 (d.1,(d.2.1,d.2.2)) (cs[k].1,(cs[k].2.1,(cs[k].2.2.1,cs[k].2.2.2)))=some (tch d cs[k]):=aF2 (d:=d) (c:=cs[k]) (by omega) (by omega)
   have t2:dL 6000 (d.1,(d.2.1,d.2.2)) (cs[k].1,(cs[k].2.1,(cs[k].2.2.1,cs[k].2.2.2)))=some (tch d cs[k]):=aCe (d:=d) (c:=cs[k]) (by omega) (by omega)
   rw [fX hlt,aG,bM (bU hlt),t1,t2]
   simp only [aL,beq_self_eq_true,Bool.not_true,aC,aR]
   rw [bV (by omega) (by omega),show ((k:Int) + 1)=((k + 1:Nat):Int) by omega]
   exact aIj hf hk hA hd hF hL hR hc hS m (k + 1) (by omega) (by omega)
  ·rw [gI hlt,aC,qK hf,nZ hf hk]
   simp only [aL,bne_self_eq_false,aC,aR]
   rw [aU1 hA]
   simp only [aL,Bool.not_true,aC]
   rw [aF5 (by omega) hF]
   simp only [aL,Bool.not_true,aC]
   rw [hS]
   simp only [aL,aG,beq_self_eq_true]
   rw [aF5 (by omega) hL]
   simp only [aL,aG,aR]
   rw [aAq (by omega) hR]
   simp only [aL]
theorem aA1:gQ 6000=some true:=by kernel_rfl
theorem spec_true (l:List De) (d:De) (cs:List Ch) (id:Int) (w:List Int × Int) (hk:kOk l) (hkd:∀ x ∈ d.2.1,x.2.1 <= 9223372036854775807):G_law26_LineageIsAsSpecified 6000 l d (cs,(id,w))=some true:=by
 unfold G_law26_LineageIsAsSpecified
 obtain ⟨b,hb,hs⟩:=bAh (N:=6000) (by omega) l cs
 rw [hb]
 simp only [aL,oG]
 cases b with
 | false =>
  rw [aC]
  simp only [aL,aG]
  rw [aA1];rfl
 | true =>
  obtain ⟨s1,s2,s3,s4⟩:=hs rfl
  rw [aG]
  obtain ⟨b2,hb2,hs2⟩:=aY4 (N:=6000) (by omega) [d] 1
  have hb2':fA 6000 [(d.1,(d.2.1,d.2.2))] 1=some b2:=hb2
  rw [hb2']
  simp only [aL]
  cases b2 with
  | false=>rw [Bool.not_false,aG,aA1];rfl
  | true =>
   have hd:eJ d:=hs2 rfl d (List.mem_singleton.2 rfl)
   have hd':=hd
   unfold eJ at hd'
   have hf:Few 6000 l:=bDl (by omega) s2 s1
   rw [Bool.not_true,aC]
   have a1:dN 6000 l (d.1,(d.2.1,d.2.2))=some (aG2 l d):=bE0 (d:=d) hf (by omega) (by omega) (by omega) (by omega) (by omega)
   have a2:mF 6000 l (d.1,(d.2.1,d.2.2))=some ((aG2 l d).2,(aG2 l d).1):=bBi (d:=d) hf hk hkd (by omega) (by omega) (by omega) (by omega) (by omega)
   have a3:cX 6000 l cs=some (aTi l cs):=aLl hf (by omega) (by omega) (by omega)
   have a4:eW 6000 l cs=some ((aTi l cs).2,(aTi l cs).1):=by
    rw [aIo hf hk (by omega) (by omega) (by omega)]
    unfold aTi
    split <;> rfl
   rw [a1,a2,a3,a4,aXf hf (by omega),aSw hf hk (by omega),aTy hf s1 s3 (by omega),aOq hf hk s1 s3 (by omega)]
   simp only [aL,aR]
   have n1:=aVg l cs
   have n2:=aOn l id
   have n3:=aZu s1 s3 id
   exact aIj hf hk (aXw s1 hd s2 (by omega)) hd (by omega) (by omega) (by omega) s4 aA1 6000 0 (Nat.zero_le _) (by omega)
end Go.Proofs.Tryz

