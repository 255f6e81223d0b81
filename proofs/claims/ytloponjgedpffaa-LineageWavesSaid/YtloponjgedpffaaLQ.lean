/- Texts of this claim. -/
import Derived.Test.YtloponjgedpffaaLA3
import Derived.Test.YtloponjgedpffaaYB
set_option linter.all false
set_option linter.unusedSimpArgs false
set_option linter.unusedVariables false
set_option synthInstance.maxSize 100000000
set_option synthInstance.maxHeartbeats 4000000
set_option maxRecDepth 100000
namespace Go.Proofs.Try
open Go.Eng Go.RowKit
abbrev Rd:=Int × Int × Int × Int
abbrev De:=Int × List Rd × List Int
abbrev Ch:=Int × Int × Int × Int

theorem lt_t {a b:Nat} (h:a < b):decide ((a:Int) < ((b:Nat):Int))=true:=decide_eq_true (by omega)
theorem lt_f {a b:Nat} (h:¬ a < b):decide ((a:Int) < ((b:Nat):Int))=false:=decide_eq_false (by omega)
theorem getn {α:Type} {l:List α} {k:Nat} (h:k < l.length):l[k]?=some l[k]:=List.getElem?_eq_getElem h

def asc:List Int->Bool
 | []=>true
 | [_]=>true
 | a :: b :: r=>!decide (b <= a) && asc (b :: r)
theorem asc_loop {l:List Int} (hl:l.length <= 4611686018427387904):∀ (m k:Nat),1 <= k->l.length - k < m->L_lineage_ascends_0 m l (k:Int)=some (asc (l.drop (k - 1)))
 | 0,_,_,h=>absurd h (Nat.not_lt_zero _)
 | m + 1,k,h1,h=>by
  show B_lineage_ascends_0 (L_lineage_ascends_0 m) l _=_
  unfold B_lineage_ascends_0
  by_cases hlt:k < l.length
  ·have e:((k:Int) - 1).toNat=k - 1:=by omega
   rw [lt_t hlt,q_if1,q_get (getn hlt),q_ck (by omega) (by omega),q_geti (by omega) (by rw [e];exact getn (by omega)),q_if]
   rw [List.drop_eq_getElem_cons (show k - 1 < l.length by omega),show k - 1 + 1=k by omega,List.drop_eq_getElem_cons hlt,asc]
   by_cases hc:l[k] <= l[k - 1]
   ·rw [if_pos (decide_eq_true hc),decide_eq_true hc];rfl
   ·rw [if_neg (by simpa using hc),decide_eq_false hc,q_ck (by omega) (by omega)]
    have:=asc_loop hl m (k + 1) (by omega) (by omega)
    rw [show ((k:Int) + 1)=((k + 1:Nat):Int) by omega,this,show k + 1 - 1=k by omega,List.drop_eq_getElem_cons hlt];rfl
  ·rw [lt_f hlt,q_if0]
   have:(l.drop (k - 1)).length <= 1:=by rw [List.length_drop];omega
   match hd:l.drop (k - 1),this with
   | [],_=>rfl
   | [_],_=>rfl
theorem ascends_eq {N:Nat} {l:List Int} (hl:l.length <= 4611686018427387904) (hN:l.length < N):G_lineage_ascends N l=some (asc l):=by
 unfold G_lineage_ascends
 exact asc_loop hl N 1 (Nat.le_refl _) (by omega)
theorem asc_iff:∀ {l:List Int},asc l=true ↔ l.Pairwise (· < ·)
 | []=>by simp [asc]
 | [_]=>by simp [asc]
 | a :: b :: r=>by
  have ih:=asc_iff (l:=b :: r)
  unfold asc
  rw [Bool.and_eq_true,ih,List.pairwise_cons (a:=a)]
  constructor
  ·rintro ⟨h1,h2⟩
   have h1:a < b:=by simpa using h1
   refine ⟨fun x hx=>?_,h2⟩
   rcases List.mem_cons.1 hx with rfl | hx
   ·exact h1
   ·exact Int.lt_trans h1 (List.rel_of_pairwise_cons h2 hx)
  ·rintro ⟨h1,h2⟩
   exact ⟨by simpa using h1 b List.mem_cons_self,h2⟩

def badR (x:Rd):Bool:=decide (x.1 < 0) || decide (x.1 ≥ 40) || decide (x.2.2.1 < 0) || decide (x.2.2.2 <= x.2.2.1) || decide (x.2.2.2 > 1402560) || decide (x.2.1 <= 0) || (bits .andNot .i64 x.2.1 15) != 0
def ofOk (id:Int) (l:List Int):Bool:=match l with
 | []=>true
 | a :: r=>decide (a ≥ 1) && decide ((a :: r).getLast (by simp) < id)
def rightB (d:De):Bool:=!(decide (d.1 < 1) || decide (d.1 > 1099511627776) || decide ((d.2.1.length:Int) > 40) || !asc d.2.2) && !d.2.1.any badR && ofOk d.1 d.2.2
theorem right_loop {id:Int} {rs:List Rd} {of:List Int} (hr:rs.length <= 4611686018427387904) (ho:of.length <= 4611686018427387904):∀ (m k:Nat),k <= rs.length->rs.length - k < m ->
  L_lineage_right_0 m rs ((rs.length:Nat):Int) (k:Int) id rs of=some (!(rs.drop k).any badR && ofOk id of)
 | 0,_,_,h=>absurd h (Nat.not_lt_zero _)
 | m + 1,k,h1,h=>by
  show B_lineage_right_0 (L_lineage_right_0 m) rs _ _ _ rs of=_
  unfold B_lineage_right_0
  by_cases hlt:k < rs.length
  ·rw [lt_t hlt,q_if1,q_get (getn hlt),List.drop_eq_getElem_cons hlt,List.any_cons]
   generalize hx:rs[k]=x
   have main:bd? (if? (decide (x.1 < 0)) (some (rs,((rs.length:Nat):Int),(k:Int),true,id,rs,of)) (if? (decide (x.1 ≥ 40)) (some (rs,((rs.length:Nat):Int),(k:Int),true,id,rs,of)) (if? (decide (x.2.2.1 < 0)) (some (rs,((rs.length:Nat):Int),(k:Int),true,id,rs,of)) (if? (decide (x.2.2.2 <= x.2.2.1)) (some (rs,((rs.length:Nat):Int),(k:Int),true,id,rs,of)) (if? (decide (x.2.2.2 > 1402560)) (some (rs,((rs.length:Nat):Int),(k:Int),true,id,rs,of)) (if? (decide (x.2.1 <= 0)) (some (rs,((rs.length:Nat):Int),(k:Int),true,id,rs,of)) (some (rs,((rs.length:Nat):Int),(k:Int),((bits .andNot .i64 x.2.1 15) != 0),id,rs,of)))))))) (fun w:List Rd × Int × Int × Bool × Int × List Rd × List Int=>if? w.2.2.2.1 (some false) (ck .i64 (w.2.2.1 + 1) (L_lineage_right_0 m w.1 w.2.1 (w.2.2.1 + 1) w.2.2.2.2.1 w.2.2.2.2.2.1 w.2.2.2.2.2.2))) =
     if? (badR x) (some false) (ck .i64 ((k:Int) + 1) (L_lineage_right_0 m rs ((rs.length:Nat):Int) ((k:Int) + 1) id rs of)):=by
    unfold badR
    cases decide (x.1 < 0) <;> cases decide (x.1 ≥ 40) <;> cases decide (x.2.2.1 < 0) <;> cases decide (x.2.2.2 <= x.2.2.1) <;> cases decide (x.2.2.2 > 1402560) <;> cases decide (x.2.1 <= 0) <;> rfl
   refine main.trans ?_
   cases hb:badR x with
   | true=>rfl
   | false =>
    rw [q_if0,q_ck (by omega) (by omega),show ((k:Int) + 1)=((k + 1:Nat):Int) by omega,right_loop hr ho m (k + 1) (by omega) (by omega)]
    rfl
  ·rw [lt_f hlt,q_if0,List.drop_of_length_le (by omega)]
   cases of with
   | nil=>rfl
   | cons a r =>
    have e0:((((a :: r).length:Nat):Int) == 0)=false:=by
     have:(((a :: r).length:Nat):Int) ≠ 0:=by simp;omega
     simpa using this
    rw [e0,q_if0,q_geti (x:=a) (by omega) rfl]
    have e1:((((a :: r).length:Nat):Int) - 1).toNat=(a :: r).length - 1:=by omega
    have hlen:(a :: r).length=r.length + 1:=rfl
    simp only [ofOk]
    by_cases ha:a ≥ 1
    ·rw [decide_eq_true ha,q_if1,q_ck (by omega) (by omega),q_geti (x:=(a :: r).getLast (by simp)) (by omega) (by rw [e1,getn (by omega),List.getLast_eq_getElem])]
     rfl
    ·rw [decide_eq_false ha,q_if0];rfl
theorem right_eq {N:Nat} {d:De} (hr:d.2.1.length <= 4611686018427387904) (ho:d.2.2.length <= 4611686018427387904) (h1:d.2.1.length < N) (h2:d.2.2.length < N):G_lineage_right N d=some (rightB d):=by
 unfold G_lineage_right rightB
 rw [ascends_eq ho h2]
 have hl:=right_loop (id:=d.1) (of:=d.2.2) hr ho N 0 (Nat.zero_le _) (by omega)
 rw [List.drop_zero] at hl
 cases decide (d.1 < 1) <;> cases decide (d.1 > 1099511627776) <;> cases decide ((d.2.1.length:Int) > 40) <;> cases asc d.2.2 <;> first | rfl | exact hl
end Go.Proofs.Try

set_option synthInstance.maxSize 100000000
set_option synthInstance.maxHeartbeats 4000000
set_option maxRecDepth 100000
namespace Go.Proofs.Try
open Go.Eng Go.RowKit

abbrev ids (l:List De):List Int:=l.map (·.1)
abbrev Srt (l:List De):Prop:=(ids l).Pairwise (· < ·)
def cnt:List De->Int->Nat
 | [],_=>0
 | d :: r,id=>if d.1 < id then cnt r id + 1 else 0
theorem cnt_le:∀ (l:List De) (id:Int),cnt l id <= l.length
 | [],_=>Nat.le_refl _
 | d :: r,id=>by
  unfold cnt
  have:=cnt_le r id
  split <;> simp <;> omega
theorem cnt_lt {id:Int}:∀ {l:List De},Srt l->∀ (i:Nat) (h:i < l.length),l[i].1 < id ↔ i < cnt l id
 | [],_,i,h=>by cases h
 | d :: r,hs,i,h=>by
  have hs':(d.1 :: ids r).Pairwise (· < ·):=hs
  unfold cnt
  by_cases hd:d.1 < id
  ·rw [if_pos hd]
   cases i with
   | zero=>simpa using hd
   | succ i =>
    have:=cnt_lt (id:=id) hs'.tail i (by simpa using h)
    rw [List.getElem_cons_succ,this];omega
  ·rw [if_neg hd]
   cases i with
   | zero=>simpa using hd
   | succ i =>
    have hlt:i < r.length:=by simpa using h
    have:d.1 < r[i].1:=List.rel_of_pairwise_cons hs' (List.mem_map.2 ⟨r[i],List.getElem_mem hlt,rfl⟩)
    rw [List.getElem_cons_succ]
    constructor
    ·intro q;omega
    ·intro q;omega
theorem cnt_found {l:List De} (hs:Srt l) {id:Int}:(∃ h:cnt l id < l.length,l[cnt l id].1=id) ↔ id ∈ ids l:=by
 constructor
 ·rintro ⟨h,e⟩
  exact List.mem_map.2 ⟨_,List.getElem_mem h,e⟩
 ·intro h
  obtain ⟨d,hd,rfl⟩:=List.mem_map.1 h
  obtain ⟨j,hj,rfl⟩:=List.getElem_of_mem hd
  have h1:¬ j < cnt l l[j].1:=fun q=>by
   have:=(cnt_lt hs j hj).2 q;omega
  have h2:∀ i,(hi:i < j)->i < cnt l l[j].1:=fun i hi=>(cnt_lt hs i (by omega)).1 (by
   have:=List.pairwise_iff_getElem.1 hs i j (by rw [List.length_map];omega) (by rw [List.length_map];omega) hi
   simpa using this)
  have h3:cnt l l[j].1=j:=by
   rcases Nat.lt_or_ge (cnt l l[j].1) j with q | q
   ·exact absurd (h2 _ q) (Nat.lt_irrefl _)
   ·omega
  exact ⟨by omega,by simp [h3]⟩
def cmp3 (a b:Int):Int:=if a < b then -1 else if a > b then 1 else 0
theorem compare_eq {N:Nat} {a b:Int}:G_cmp_Compare_int N a b=some (cmp3 a b):=by
 unfold G_cmp_Compare_int G_cmp_isNaN_int cmp3
 rw [show (a != a)=false by simp,show (b != b)=false by simp]
 simp only [q_bd,q_if0]
 by_cases h:a < b
 ·rw [decide_eq_true h,if_pos h];rfl
 ·rw [decide_eq_false h,if_neg h]
  by_cases h2:a > b
  ·rw [decide_eq_true h2,if_pos h2];rfl
  ·rw [decide_eq_false h2,if_neg h2];rfl
theorem at1_eq {N:Nat} {d:De} {id:Int}:G_lineage_at_1 N d id=some (cmp3 d.1 id):=by
 unfold G_lineage_at_1
 rw [compare_eq];rfl
theorem mid_eq {n:Nat} (h:n <= 9223372036854775807):(IntKind.wrap .i64 ((IntKind.wrap .u64 (n:Int)) / (2 ^ 1)))=((n / 2:Nat):Int):=by
 rw [show IntKind.wrap .u64 (n:Int)=(n:Int) by rw [IntKind.wrap_u64];omega,q_wrap (by omega) (by omega)];omega
theorem bs_loop {N:Nat} {l:List De} (hs:Srt l) (hl:l.length <= 4611686018427387904) {id:Int}:∀ (m lo hi:Nat),lo <= cnt l id->cnt l id <= hi->hi <= l.length->hi - lo < m ->
  L_slices_BinarySearchFunc_Derived_Derived_0 N m l id ((l.length:Nat):Int) (lo:Int) (hi:Int)=some (((cnt l id:Nat):Int),decide (id ∈ ids l))
 | 0,_,_,_,_,_,h=>absurd h (Nat.not_lt_zero _)
 | m + 1,lo,hi,h1,h2,h3,h=>by
  show B_slices_BinarySearchFunc_Derived_Derived_0 N (L_slices_BinarySearchFunc_Derived_Derived_0 N m) l id _ _ _=_
  unfold B_slices_BinarySearchFunc_Derived_Derived_0
  by_cases hlt:lo < hi
  ·rw [lt_t hlt,q_if1,q_ck (by omega) (by omega),show (lo:Int) + (hi:Int)=((lo + hi:Nat):Int) by omega,mid_eq (by omega)]
   have hm:(lo + hi) / 2 < l.length:=by omega
   rw [q_get (getn hm),at1_eq (d:=l[(lo + hi) / 2])]
   simp only [q_bd]
   have hc:=cnt_lt (id:=id) hs _ hm
   by_cases hlt2:l[(lo + hi) / 2].1 < id
   ·have:=hc.1 hlt2
    rw [show decide (cmp3 l[(lo + hi) / 2].1 id < 0)=true by unfold cmp3;rw [if_pos hlt2];rfl,q_if1,q_ck (by omega) (by omega),show (((lo + hi) / 2:Nat):Int) + 1=(((lo + hi) / 2 + 1:Nat):Int) by omega]
    exact bs_loop hs hl m _ hi (by omega) h2 h3 (by omega)
   ·have:¬ (lo + hi) / 2 < cnt l id:=fun q=>hlt2 (hc.2 q)
    rw [show decide (cmp3 l[(lo + hi) / 2].1 id < 0)=false by unfold cmp3;rw [if_neg hlt2];split <;> rfl,q_if0]
    exact bs_loop hs hl m lo _ h1 (by omega) (by omega) (by omega)
  ·have e:lo=cnt l id:=by omega
   rw [lt_f hlt,q_if0]
   have hf:=cnt_found hs (id:=id)
   by_cases hlen:lo < l.length
   ·rw [lt_t hlen,q_if1,q_get (getn hlen),at1_eq (d:=l[lo])]
    simp only [q_bd]
    have:(cmp3 l[lo].1 id == 0)=decide (id ∈ ids l):=by
     have hn:¬ l[lo].1 < id:=fun q=>by have:=(cnt_lt hs lo hlen).1 q;omega
     unfold cmp3
     rw [if_neg hn]
     by_cases hg:l[lo].1 > id
     ·rw [if_pos hg]
      have:¬ id ∈ ids l:=fun q=>by
       obtain ⟨_,q⟩:=hf.2 q
       simp only [<- e] at q;omega
      rw [decide_eq_false this];rfl
     ·rw [if_neg hg]
      have:id ∈ ids l:=hf.1 ⟨by omega,by simp only [<- e];omega⟩
      rw [decide_eq_true this];rfl
    rw [this,e]
   ·rw [lt_f hlen,q_if0]
    have:¬ id ∈ ids l:=fun q=>by obtain ⟨q,_⟩:=hf.2 q;omega
    rw [decide_eq_false this,e];rfl
theorem at_eq {N:Nat} {l:List De} (hs:Srt l) (hl:l.length <= 4611686018427387904) (hN:l.length < N) {id:Int}:G_lineage_at N l id=some (((cnt l id:Nat):Int),decide (id ∈ ids l)):=by
 unfold G_lineage_at G_slices_BinarySearchFunc_Derived_Derived
 have:=bs_loop (N:=N) hs hl (id:=id) N 0 l.length (Nat.zero_le _) (cnt_le _ _) (Nat.le_refl _) (by omega)
 rw [show ((0:Nat):Int)=0 from rfl] at this
 rw [this];rfl
theorem known_loop {N:Nat} {l:List De} (hs:Srt l) (hl:l.length <= 4611686018427387904) (hN:l.length < N) {is:List Int} (hi:is.length <= 4611686018427387904):∀ (m k:Nat),k <= is.length->is.length - k < m ->
  L_lineage_known_0 N m l is ((is.length:Nat):Int) (k:Int)=some ((is.drop k).all fun i=>decide (i ∈ ids l))
 | 0,_,_,h=>absurd h (Nat.not_lt_zero _)
 | m + 1,k,h1,h=>by
  show B_lineage_known_0 N (L_lineage_known_0 N m) l is _ _=_
  unfold B_lineage_known_0
  by_cases hlt:k < is.length
  ·rw [lt_t hlt,q_if1,q_get (getn hlt),at_eq hs hl hN,List.drop_eq_getElem_cons hlt,List.all_cons]
   simp only [q_bd]
   cases decide (is[k] ∈ ids l) with
   | false=>rfl
   | true =>
    show if? (!true) _ _=_
    rw [q_ifn,q_if1,q_ck (by omega) (by omega),show ((k:Int) + 1)=((k + 1:Nat):Int) by omega,known_loop hs hl hN hi m (k + 1) (by omega) (by omega)]
    rfl
  ·rw [lt_f hlt,q_if0,List.drop_of_length_le (by omega)];rfl
theorem known_eq {N:Nat} {l:List De} (hs:Srt l) (hl:l.length <= 4611686018427387904) (hN:l.length < N) {is:List Int} (hi:is.length <= 4611686018427387904) (hN2:is.length < N):G_lineage_known N l is=some (is.all fun i=>decide (i ∈ ids l)):=by
 unfold G_lineage_known
 have:=known_loop hs hl hN hi N 0 (Nat.zero_le _) (by omega)
 rw [List.drop_zero] at this
 exact this

def okD (pre:List De) (d:De):Bool:=(match pre.getLast? with | none=>true | some e=>!decide (d.1 <= e.1)) && rightB d && d.2.2.all fun i=>decide (i ∈ ids pre)
def okL:List De->List De->Bool
 | _,[]=>true
 | pre,d :: r=>okD pre d && okL (pre ++ [d]) r
structure Few (N:Nat) (l:List De):Prop where
 len:l.length < N
 big:l.length <= 4611686018427387904
 rd:∀ d ∈ l,d.2.1.length < N/\d.2.1.length <= 4611686018427387904
 of:∀ d ∈ l,d.2.2.length < N/\d.2.2.length <= 4611686018427387904
theorem srt_push {l:List De} {d:De} (hs:Srt l) (h:∀ e,l.getLast?=some e->e.1 < d.1):Srt (l ++ [d]):=by
 show (ids (l ++ [d])).Pairwise _
 rw [ids,List.map_append,List.pairwise_append]
 refine ⟨hs,by simp,fun a ha b hb=>?_⟩
 rw [List.map_singleton,List.mem_singleton] at hb
 subst hb
 obtain ⟨x,hx,rfl⟩:=List.mem_map.1 ha
 rcases List.eq_nil_or_concat l with rfl | ⟨l',e,rfl⟩
 ·cases hx
 ·rw [List.concat_eq_append] at *
  have he:=h e (by simp)
  rcases List.mem_append.1 hx with hx | hx
  ·have:(ids (l' ++ [e])).Pairwise (· < ·):=hs
   rw [ids,List.map_append,List.pairwise_append] at this
   exact Int.lt_trans (this.2.2 x.1 (List.mem_map.2 ⟨x,hx,rfl⟩) e.1 (by simp)) he
  ·rw [List.mem_singleton.1 hx];exact he
theorem check_loop {N:Nat} {l:List De} (hf:Few N l):∀ (m k:Nat),k <= l.length->l.length - k < m->Srt (l.take k) ->
  L_lineage_Check_0 N m l l ((l.length:Nat):Int) (k:Int)=some (if okL (l.take k) (l.drop k)=true then 0 else 1)
 | 0,_,_,h,_=>absurd h (Nat.not_lt_zero _)
 | m + 1,k,h1,h,hs=>by
  show B_lineage_Check_0 N (L_lineage_Check_0 N m) l l _ _=_
  unfold B_lineage_Check_0
  have hbig:=hf.big
  have hlen:=hf.len
  by_cases hlt:k < l.length
  ·rw [lt_t hlt,q_if1,q_get (getn hlt),List.drop_eq_getElem_cons hlt]
   have hm:=List.getElem_mem hlt
   have hd:=hf.rd _ hm
   have ho:=hf.of _ hm
   have htk:(l.take k).length=k:=by rw [List.length_take];omega
   have hr:G_lineage_right N (l[k].1,(l[k].2.1,l[k].2.2))=some (rightB l[k]):=right_eq (d:=l[k]) hd.2 ho.2 hd.1 ho.1
   have hk:G_lineage_known N (List.take ((k:Int).toNat - 0) (List.drop 0 l)) l[k].2.2=some (l[k].2.2.all fun i=>decide (i ∈ ids (l.take k))):=by
    rw [show (k:Int).toNat - 0=k by omega,List.drop_zero]
    exact known_eq hs (by omega) (by omega) ho.2 ho.1
   have rest:(bd? (G_lineage_right N (l[k].1,(l[k].2.1,l[k].2.2))) fun v9=>if? (!v9) (some (l,l,((l.length:Nat):Int),(k:Int),true)) (gd? (0 <= (k:Int)) (gd? (0 <= (k:Int).toNat) (gd? ((k:Int).toNat <= l.length) (bd? (G_lineage_known N (List.take ((k:Int).toNat - 0) (List.drop 0 l)) l[k].2.2) fun v10=>some (l,l,((l.length:Nat):Int),(k:Int),!v10)))))) =
     some (l,l,((l.length:Nat):Int),(k:Int),!(rightB l[k] && l[k].2.2.all fun i=>decide (i ∈ ids (l.take k)))):=by
    rw [hr,hk]
    simp only [q_bd]
    cases rightB l[k] with
    | false=>rfl
    | true=>rw [q_ifn,q_if1,q_gdT (by omega),q_gdT (by omega),q_gdT (by omega),Bool.true_and]
   have main:(if? (decide ((k:Int) > 0)) (ck .i64 ((k:Int) - 1) (get? l ((k:Int) - 1) fun x8=>if? (decide (l[k].1 <= x8.1)) (some (l,l,((l.length:Nat):Int),(k:Int),true)) (bd? (G_lineage_right N (l[k].1,(l[k].2.1,l[k].2.2))) fun v9=>if? (!v9) (some (l,l,((l.length:Nat):Int),(k:Int),true)) (gd? (0 <= (k:Int)) (gd? (0 <= (k:Int).toNat) (gd? ((k:Int).toNat <= l.length) (bd? (G_lineage_known N (List.take ((k:Int).toNat - 0) (List.drop 0 l)) l[k].2.2) fun v10=>some (l,l,((l.length:Nat):Int),(k:Int),!v10))))))))
      (bd? (G_lineage_right N (l[k].1,(l[k].2.1,l[k].2.2))) fun v9=>if? (!v9) (some (l,l,((l.length:Nat):Int),(k:Int),true)) (gd? (0 <= (k:Int)) (gd? (0 <= (k:Int).toNat) (gd? ((k:Int).toNat <= l.length) (bd? (G_lineage_known N (List.take ((k:Int).toNat - 0) (List.drop 0 l)) l[k].2.2) fun v10=>some (l,l,((l.length:Nat):Int),(k:Int),!v10))))))) =
     some (l,l,((l.length:Nat):Int),(k:Int),!okD (l.take k) l[k]):=by
    rw [rest]
    unfold okD
    by_cases hk0:k=0
    ·subst hk0;simp
    ·have e1:((k:Int) - 1).toNat=k - 1:=by omega
     have e2:(l.take k).getLast?=some l[k - 1]:=by
      rw [List.getLast?_eq_getElem?,htk,List.getElem?_take_of_lt (by omega),getn (by omega)]
     rw [decide_eq_true (show (k:Int) > 0 by omega),q_if1,q_ck (by omega) (by omega),q_geti (by omega) (by rw [e1];exact getn (by omega)),e2]
     dsimp only
     by_cases hc:l[k].1 <= l[k - 1].1
     ·rw [decide_eq_true hc];rfl
     ·rw [decide_eq_false hc];simp [Bool.and_assoc]
   rw [main]
   simp only [q_bd]
   rw [okL]
   cases hok:okD (l.take k) l[k] with
   | false=>rfl
   | true =>
    show if? (!true) _ _=_
    rw [q_ifn,q_if1,q_ck (by omega) (by omega),show ((k:Int) + 1)=((k + 1:Nat):Int) by omega,Bool.true_and]
    have e3:l.take k ++ [l[k]]=l.take (k + 1):=by rw [List.take_succ_eq_append_getElem hlt]
    rw [e3]
    refine check_loop hf m (k + 1) (by omega) (by omega) ?_
    rw [<- e3]
    refine srt_push hs fun e he=>?_
    unfold okD at hok
    rw [he] at hok
    simp only [Bool.and_eq_true,Bool.not_eq_true',decide_eq_false_iff_not] at hok
    omega
  ·rw [lt_f hlt,q_if0,List.drop_of_length_le (by omega)];rfl
def chk (l:List De):Int:=if l.length > 2000 then 2 else if okL [] l=true then 0 else 1
theorem check_eq {N:Nat} {l:List De} (hf:Few N l):G_lineage_Check N l=some (chk l):=by
 unfold G_lineage_Check chk
 by_cases h:l.length > 2000
 ·rw [if_pos h,decide_eq_true (show ((l.length:Nat):Int) > 2000 by omega)];rfl
 ·rw [if_neg h,decide_eq_false (show ¬ ((l.length:Nat):Int) > 2000 by omega),q_if0]
  have:=check_loop hf N 0 (Nat.zero_le _) (by have:=hf.len;omega) (by simp [Srt])
  simpa using this
end Go.Proofs.Try

set_option synthInstance.maxSize 100000000
set_option synthInstance.maxHeartbeats 4000000
set_option maxRecDepth 100000
namespace Go.Proofs.Try
open Go.Eng Go.RowKit

def tR (c:Ch) (x:Rd):Bool:=(x.1 == c.2.1) && ((bits .and .i64 (x.2.1 / (2 ^ c.1.toNat)) 1) == 1) && decide ((Max.max x.2.2.1 c.2.2.1) < (Min.min x.2.2.2 c.2.2.2))
def tch (d:De) (c:Ch):Bool:=!decide (c.1 < 0) && !decide (c.1 > 3) && d.2.1.any (tR c)
theorem touches1_eq {N:Nat} {x:Rd} {c:Ch} (h0:0 <= c.1) (h3:c.1 <= 3):G_lineage_Touches_1 N x c.1 c.2.1 c.2.2.1 c.2.2.2=some (tR c x,c):=by
 have h64:((IntKind.bits .i64:Nat):Int)=64:=rfl
 unfold G_lineage_Touches_1 tR
 cases hg:x.1 == c.2.1 with
 | false=>rfl
 | true =>
  rw [q_if1,q_gdT h0,q_gdT (by rw [h64];omega)]
  cases hb:(bits .and .i64 (x.2.1 / (2 ^ c.1.toNat)) 1) == 1 with
  | false=>rfl
  | true=>rfl
theorem idxR_loop {N:Nat} {rs:List Rd} {c:Ch} (h0:0 <= c.1) (h3:c.1 <= 3) (hl:rs.length <= 4611686018427387904):∀ (m k:Nat),k <= rs.length->rs.length - k < m ->
  ∃ r:Int,L_slices_IndexFunc_Read_Read_0 N m rs ((rs.length:Nat):Int) (k:Int) c.1 c.2.1 c.2.2.1 c.2.2.2=some (r,c)/\decide (r ≥ 0)=(rs.drop k).any (tR c)
 | 0,_,_,h=>absurd h (Nat.not_lt_zero _)
 | m + 1,k,h1,h=>by
  show ∃ r:Int,B_slices_IndexFunc_Read_Read_0 N (L_slices_IndexFunc_Read_Read_0 N m) rs _ _ _ _ _ _=_/\_
  unfold B_slices_IndexFunc_Read_Read_0
  by_cases hlt:k < rs.length
  ·rw [lt_t hlt,q_if1,q_get (getn hlt),List.drop_eq_getElem_cons hlt,List.any_cons,touches1_eq (x:=rs[k]) h0 h3]
   simp only [q_bd]
   cases hb:tR c rs[k] with
   | true=>exact ⟨k,rfl,by simp⟩
   | false =>
    obtain ⟨r,e1,e2⟩:=idxR_loop (N:=N) h0 h3 hl m (k + 1) (by omega) (by omega)
    exact ⟨r,by rw [q_if0,q_ck (by omega) (by omega),show ((k:Int) + 1)=((k + 1:Nat):Int) by omega];exact e1,by rw [e2];rfl⟩
  ·exact ⟨-1,by rw [lt_f hlt,q_if0],by rw [List.drop_of_length_le (by omega)];rfl⟩
theorem touches_eq {N:Nat} {d:De} {c:Ch} (hl:d.2.1.length <= 4611686018427387904) (hN:d.2.1.length < N):G_lineage_Touches N d c=some (tch d c):=by
 unfold G_lineage_Touches tch
 by_cases h0:c.1 < 0
 ·rw [decide_eq_true h0];rfl
 ·rw [decide_eq_false h0,q_if0]
  simp only [q_bd]
  by_cases h3:c.1 > 3
  ·rw [decide_eq_true h3];rfl
  ·rw [decide_eq_false h3,q_if0]
   obtain ⟨r,e1,e2⟩:=idxR_loop (N:=N) (c:=c) (by omega) (by omega) hl N 0 (Nat.zero_le _) (by omega)
   unfold G_slices_ContainsFunc_Read_Read G_slices_IndexFunc_Read_Read
   have e1:L_slices_IndexFunc_Read_Read_0 N N d.2.1 ((d.2.1.length:Nat):Int) 0 c.1 c.2.1 c.2.2.1 c.2.2.2=some (r,c):=e1
   rw [e1]
   show some (decide (r ≥ 0))=_
   rw [e2];rfl
theorem idxC_loop {N:Nat} {d:De} {cs:List Ch} (hd:d.2.1.length <= 4611686018427387904) (hN:d.2.1.length < N) (hl:cs.length <= 4611686018427387904):∀ (m k:Nat),k <= cs.length->cs.length - k < m ->
  ∃ r:Int,L_slices_IndexFunc_Change_Change_0 N m cs ((cs.length:Nat):Int) (k:Int) d.1 d.2.1 d.2.2=some (r,d)/\decide (r ≥ 0)=(cs.drop k).any (tch d)
 | 0,_,_,h=>absurd h (Nat.not_lt_zero _)
 | m + 1,k,h1,h=>by
  show ∃ r:Int,B_slices_IndexFunc_Change_Change_0 N (L_slices_IndexFunc_Change_Change_0 N m) cs _ _ _ _ _=_/\_
  unfold B_slices_IndexFunc_Change_Change_0
  by_cases hlt:k < cs.length
  ·have ht:G_lineage_touched_1_1 N (cs[k].1,(cs[k].2.1,(cs[k].2.2.1,cs[k].2.2.2))) d.1 d.2.1 d.2.2=some (tch d cs[k],d):=by
    unfold G_lineage_touched_1_1
    have:=touches_eq (N:=N) (d:=d) (c:=cs[k]) hd hN
    have this:G_lineage_Touches N (d.1,(d.2.1,d.2.2)) (cs[k].1,(cs[k].2.1,(cs[k].2.2.1,cs[k].2.2.2)))=some (tch d cs[k]):=this
    rw [this];rfl
   rw [lt_t hlt,q_if1,q_get (getn hlt),List.drop_eq_getElem_cons hlt,List.any_cons,ht]
   simp only [q_bd]
   cases hb:tch d cs[k] with
   | true=>exact ⟨k,rfl,by simp⟩
   | false =>
    obtain ⟨r,e1,e2⟩:=idxC_loop (N:=N) hd hN hl m (k + 1) (by omega) (by omega)
    exact ⟨r,by rw [q_if0,q_ck (by omega) (by omega),show ((k:Int) + 1)=((k + 1:Nat):Int) by omega];exact e1,by rw [e2];rfl⟩
  ·exact ⟨-1,by rw [lt_f hlt,q_if0],by rw [List.drop_of_length_le (by omega)];rfl⟩
theorem cfC_eq {N:Nat} {d:De} {cs:List Ch} (hd:d.2.1.length <= 4611686018427387904) (hN:d.2.1.length < N) (hl:cs.length <= 4611686018427387904) (hN2:cs.length < N):G_slices_ContainsFunc_Change_Change N cs d.1 d.2.1 d.2.2=some (cs.any (tch d),d):=by
 unfold G_slices_ContainsFunc_Change_Change G_slices_IndexFunc_Change_Change
 obtain ⟨r,e1,e2⟩:=idxC_loop (N:=N) (d:=d) hd hN hl N 0 (Nat.zero_le _) (by omega)
 have e1:L_slices_IndexFunc_Change_Change_0 N N cs ((cs.length:Nat):Int) 0 d.1 d.2.1 d.2.2=some (r,d):=e1
 rw [e1]
 show some (decide (r ≥ 0),d)=_
 rw [e2];rfl

abbrev MB:=List (Int × Bool)
def has (mp:MB) (x:Int):Bool:=(mGet mp x).getD false
def tids (cs:List Ch) (l:List De):List Int:=(l.filter fun d=>cs.any (tch d)).map (·.1)
theorem begin_loop {N:Nat} {l:List De} {cs:List Ch} (hf:Few N l) (hl:l.length <= 17592186044415) (hc:cs.length <= 4611686018427387904) (hN2:cs.length < N) {a9 a11 a12:Int}:∀ (m k:Nat) (out:List Int),k <= l.length->l.length - k < m->out.length <= k ->
  L_lineage_Begin_0 N m l ((l.length:Nat):Int) (k:Int) a9 cs a11 a12 [] out=some (a11,(a12,([],out ++ tids cs (l.drop k))))
 | 0,_,_,_,h,_=>absurd h (Nat.not_lt_zero _)
 | m + 1,k,out,h1,h,h2=>by
  show B_lineage_Begin_0 N (L_lineage_Begin_0 N m) l _ _ _ cs _ _ _ _=_
  unfold B_lineage_Begin_0
  by_cases hlt:k < l.length
  ·have hm:=List.getElem_mem hlt
   have hd:=hf.rd _ hm
   rw [lt_t hlt,q_if1,q_get (getn hlt),List.drop_eq_getElem_cons hlt,cfC_eq (d:=l[k]) hd.2 hd.1 hc hN2]
   simp only [q_bd]
   have e0:tids cs (l[k] :: l.drop (k + 1))=(if cs.any (tch l[k])=true then [l[k].1] else []) ++ tids cs (l.drop (k + 1)):=by
    unfold tids
    rw [List.filter_cons]
    split <;> simp
   rw [e0]
   cases hb:cs.any (tch l[k]) with
   | true =>
    simp only [q_if1,q_gl,if_true]
    rw [q_gdT (by simp;omega)]
    simp only [q_bd,q_ifn,q_if1,q_gl]
    rw [q_ck (by omega) (by omega),show ((k:Int) + 1)=((k + 1:Nat):Int) by omega,begin_loop hf hl hc hN2 m (k + 1) (out ++ [l[k].1]) (by omega) (by omega) (by simp;omega)]
    simp
   | false =>
    simp only [q_if0,q_gl,Bool.false_eq_true,if_false]
    simp only [q_bd,q_if0,q_gl]
    rw [q_ck (by omega) (by omega),show ((k:Int) + 1)=((k + 1:Nat):Int) by omega,begin_loop hf hl hc hN2 m (k + 1) out (by omega) (by omega) (by omega)]
    simp
  ·rw [lt_f hlt,q_if0,List.drop_of_length_le (by omega),q_gl,q_gl]
   simp [tids]
theorem begin_eq {N:Nat} {l:List De} {cs:List Ch} (hf:Few N l) (hl:l.length <= 17592186044415) (hc:cs.length <= 4611686018427387904) (hN2:cs.length < N):G_lineage_Begin N l cs=some (if chk l=0 then (tids cs l,(0,0)) else ([],(0,chk l))):=by
 unfold G_lineage_Begin
 rw [check_eq hf]
 simp only [q_bd]
 by_cases h:chk l=0
 ·rw [h]
  simp only [bne_self_eq_false,q_if0,if_true]
  unfold G_lineage_touched
  simp only [q_bd]
  have:=begin_loop (N:=N) (a9:=0) (a11:=0) (a12:=0) hf hl hc hN2 N 0 [] (Nat.zero_le _) (by have:=hf.len;omega) (Nat.le_refl _)
  have this:L_lineage_Begin_0 N N l ((l.length:Nat):Int) 0 0 cs 0 0 [] []=some (0,(0,([],tids cs l))):=by simpa using this
  rw [this]
  simp
 ·rw [if_neg h,show (chk l != 0)=true by simpa using h];rfl
def clo:List De->MB->List Int
 | [],_=>[]
 | d :: r,mp=>if (has mp d.1 || d.2.2.any (has mp))=true then d.1 :: clo r (mSet mp d.1 true) else clo r mp
theorem idxI_loop {N:Nat} {is:List Int} {mp:MB} (hl:is.length <= 4611686018427387904):∀ (m k:Nat),k <= is.length->is.length - k < m ->
  ∃ r:Int,L_slices_IndexFunc_int_int_0 N m is ((is.length:Nat):Int) (k:Int) mp=some (r,mp)/\decide (r ≥ 0)=(is.drop k).any (has mp)
 | 0,_,_,h=>absurd h (Nat.not_lt_zero _)
 | m + 1,k,h1,h=>by
  show ∃ r:Int,B_slices_IndexFunc_int_int_0 N (L_slices_IndexFunc_int_int_0 N m) is _ _ _=_/\_
  unfold B_slices_IndexFunc_int_int_0
  by_cases hlt:k < is.length
  ·rw [lt_t hlt,q_if1,q_get (getn hlt),List.drop_eq_getElem_cons hlt,List.any_cons]
   show ∃ r:Int,if? (has mp is[k]) (some ((k:Int),mp)) (ck .i64 ((k:Int) + 1) (L_slices_IndexFunc_int_int_0 N m is ((is.length:Nat):Int) ((k:Int) + 1) mp))=some (r,mp)/\_
   cases hb:has mp is[k] with
   | true=>exact ⟨k,rfl,by simp⟩
   | false =>
    obtain ⟨r,e1,e2⟩:=idxI_loop (N:=N) (mp:=mp) hl m (k + 1) (by omega) (by omega)
    exact ⟨r,by rw [q_if0,q_ck (by omega) (by omega),show ((k:Int) + 1)=((k + 1:Nat):Int) by omega];exact e1,by rw [e2];rfl⟩
  ·exact ⟨-1,by rw [lt_f hlt,q_if0],by rw [List.drop_of_length_le (by omega)];rfl⟩
theorem cfI_eq {N:Nat} {is:List Int} {mp:MB} (hl:is.length <= 4611686018427387904) (hN:is.length < N):G_slices_ContainsFunc_int_int N is mp=some (is.any (has mp),mp):=by
 unfold G_slices_ContainsFunc_int_int G_slices_IndexFunc_int_int
 obtain ⟨r,e1,e2⟩:=idxI_loop (N:=N) (mp:=mp) hl N 0 (Nat.zero_le _) (by omega)
 have e1:L_slices_IndexFunc_int_int_0 N N is ((is.length:Nat):Int) 0 mp=some (r,mp):=e1
 rw [e1]
 show some (decide (r ≥ 0),mp)=_
 rw [e2];rfl
theorem clo_loop {N:Nat} {l:List De} (hf:Few N l) (hl:l.length <= 17592186044415):∀ (m k:Nat) (out:List Int) (mp:MB),k <= l.length->l.length - k < m->out.length <= k ->
  L_lineage_closure_0 N m l ((l.length:Nat):Int) (k:Int) out mp=some (out ++ clo (l.drop k) mp)
 | 0,_,_,_,_,h,_=>absurd h (Nat.not_lt_zero _)
 | m + 1,k,out,mp,h1,h,h2=>by
  show B_lineage_closure_0 N (L_lineage_closure_0 N m) l _ _ _ _=_
  unfold B_lineage_closure_0
  by_cases hlt:k < l.length
  ·have hm:=List.getElem_mem hlt
   have ho:=hf.of _ hm
   rw [lt_t hlt,q_if1,q_get (getn hlt),List.drop_eq_getElem_cons hlt,cfI_eq ho.2 ho.1]
   have main:(if? (((mGet mp l[k].1)).getD false) (gl? out.length out (some (l,((l.length:Nat):Int),(k:Int),true,out,l[k].1,l[k].2.1,l[k].2.2,mp))) (bd? (some (l[k].2.2.any (has mp),mp)) fun v10=>gl? out.length out (some (l,((l.length:Nat):Int),(k:Int),v10.1,out,l[k].1,l[k].2.1,l[k].2.2,v10.2)))) =
     some (l,((l.length:Nat):Int),(k:Int),(has mp l[k].1 || l[k].2.2.any (has mp)),out,l[k].1,l[k].2.1,l[k].2.2,mp):=by
    show if? (has mp l[k].1) _ _=_
    cases has mp l[k].1 with
    | true=>rw [q_if1,q_gl];rfl
    | false =>
     rw [q_if0]
     simp only [q_bd]
     rw [q_gl];rfl
   rw [main]
   simp only [q_bd]
   rw [clo]
   cases hb:(has mp l[k].1 || l[k].2.2.any (has mp)) with
   | true =>
    rw [q_if1,q_gl,q_gdT (by simp;omega),q_gl]
    simp only [q_bd,if_true]
    rw [q_ck (by omega) (by omega),q_gl,show ((k:Int) + 1)=((k + 1:Nat):Int) by omega,clo_loop hf hl m (k + 1) (out ++ [l[k].1]) (mSet mp l[k].1 true) (by omega) (by omega) (by simp;omega)]
    simp
   | false =>
    rw [q_if0,q_gl]
    simp only [q_bd,Bool.false_eq_true,if_false]
    rw [q_ck (by omega) (by omega),q_gl,show ((k:Int) + 1)=((k + 1:Nat):Int) by omega,clo_loop hf hl m (k + 1) out mp (by omega) (by omega) (by omega)]
  ·rw [lt_f hlt,q_if0,List.drop_of_length_le (by omega),q_gl]
   simp [clo]
theorem closure_eq {N:Nat} {l:List De} (hf:Few N l) (hl:l.length <= 17592186044415) {mp:MB}:G_lineage_closure N l mp=some (clo l mp):=by
 unfold G_lineage_closure
 have:=clo_loop hf hl N 0 [] mp (Nat.zero_le _) (by have:=hf.len;omega) (Nat.le_refl _)
 simpa using this
def inM (mp:MB) (is:List Int):MB:=is.foldl (fun mp i=>mSet mp i true) mp
theorem aff_loop {N:Nat} {l p:List De} {cs:List Ch} {a10:Int} (hf:Few N l) (hc:cs.length <= 4611686018427387904) (hN2:cs.length < N):∀ (m k:Nat) (mp:MB),k <= l.length->l.length - k < m ->
  L_lineage_Affected_0 N m l ((l.length:Nat):Int) (k:Int) p a10 cs [] mp=some (p,inM mp (tids cs (l.drop k)))
 | 0,_,_,_,h=>absurd h (Nat.not_lt_zero _)
 | m + 1,k,mp,h1,h=>by
  show B_lineage_Affected_0 N (L_lineage_Affected_0 N m) l _ _ _ _ cs _ _=_
  unfold B_lineage_Affected_0
  have hbig:=hf.big
  by_cases hlt:k < l.length
  ·have hm:=List.getElem_mem hlt
   have hd:=hf.rd _ hm
   rw [lt_t hlt,q_if1,q_get (getn hlt),List.drop_eq_getElem_cons hlt,cfC_eq (d:=l[k]) hd.2 hd.1 hc hN2]
   simp only [q_bd]
   have e0:tids cs (l[k] :: l.drop (k + 1))=(if cs.any (tch l[k])=true then [l[k].1] else []) ++ tids cs (l.drop (k + 1)):=by
    unfold tids
    rw [List.filter_cons]
    split <;> simp
   rw [e0]
   cases hb:cs.any (tch l[k]) with
   | true =>
    simp only [q_if1,q_gl,if_true,q_bd]
    simp only [q_ifn,q_if1,q_gl]
    rw [q_ck (by omega) (by omega),show ((k:Int) + 1)=((k + 1:Nat):Int) by omega,aff_loop hf hc hN2 m (k + 1) (mSet mp l[k].1 true) (by omega) (by omega)]
    rfl
   | false =>
    simp only [q_if0,q_gl,Bool.false_eq_true,if_false,q_bd]
    rw [q_ck (by omega) (by omega)]
    try dsimp only
    rw [show ((k:Int) + 1)=((k + 1:Nat):Int) by omega,aff_loop hf hc hN2 m (k + 1) mp (by omega) (by omega)]
    simp
  ·rw [lt_f hlt,q_if0,List.drop_of_length_le (by omega)];rfl
theorem affected_eq {N:Nat} {l:List De} {cs:List Ch} (hf:Few N l) (hl:l.length <= 17592186044415) (hc:cs.length <= 4611686018427387904) (hN2:cs.length < N):G_lineage_Affected N l cs=some (if chk l=0 then (0,clo l (inM [] (tids cs l))) else (chk l,[])):=by
 unfold G_lineage_Affected
 rw [check_eq hf]
 simp only [q_bd]
 by_cases h:chk l=0
 ·rw [h]
  simp only [bne_self_eq_false,q_if0,if_true]
  unfold G_lineage_touched
  simp only [q_bd]
  have:=aff_loop (N:=N) (p:=l) (a10:=0) hf hc hN2 N 0 [] (Nat.zero_le _) (by have:=hf.len;omega)
  have this:L_lineage_Affected_0 N N l ((l.length:Nat):Int) 0 l 0 cs [] []=some (l,inM [] (tids cs l)):=by simpa using this
  rw [this]
  simp only [q_bd]
  rw [closure_eq hf hl]
  simp
 ·rw [if_neg h,show (chk l != 0)=true by simpa using h];rfl
end Go.Proofs.Try

set_option synthInstance.maxSize 100000000
set_option synthInstance.maxHeartbeats 4000000
set_option maxRecDepth 100000
namespace Go.Proofs.Try
open Go.Eng Go.RowKit

theorem asc_ext:∀ {l l':List Int},l.Pairwise (· < ·)->l'.Pairwise (· < ·)->(∀ x,x ∈ l ↔ x ∈ l')->l=l'
 | [],[],_,_,_=>rfl
 | [],b :: r,_,_,h=>absurd ((h b).2 List.mem_cons_self) (by simp)
 | a :: r,[],_,_,h=>absurd ((h a).1 List.mem_cons_self) (by simp)
 | a :: r,b :: r',h1,h2,h=>by
  have ab:a=b:=by
   rcases List.mem_cons.1 ((h a).1 List.mem_cons_self) with e | e
   ·exact e
   ·rcases List.mem_cons.1 ((h b).2 List.mem_cons_self) with e' | e'
    ·exact e'.symm
    ·have:=List.rel_of_pairwise_cons h2 e
     have:=List.rel_of_pairwise_cons h1 e'
     omega
  subst ab
  congr 1
  refine asc_ext h1.tail h2.tail fun x=>⟨fun hx=>?_,fun hx=>?_⟩
  ·have:=List.rel_of_pairwise_cons h1 hx
   rcases List.mem_cons.1 ((h x).1 (List.mem_cons_of_mem _ hx)) with e | e
   ·omega
   ·exact e
  ·have:=List.rel_of_pairwise_cons h2 hx
   rcases List.mem_cons.1 ((h x).2 (List.mem_cons_of_mem _ hx)) with e | e
   ·omega
   ·exact e
def cntI:List Int->Int->Nat
 | [],_=>0
 | a :: r,x=>if a < x then cntI r x + 1 else 0
theorem cntI_ids:∀ (l:List De) (x:Int),cnt l x=cntI (ids l) x
 | [],_=>rfl
 | d :: r,x=>by
  show (if d.1 < x then cnt r x + 1 else 0)=if d.1 < x then cntI (ids r) x + 1 else 0
  rw [cntI_ids r x]
def asDe (l:List Int):List De:=l.map fun x=>(x,[],[])
theorem ids_asDe:∀ l:List Int,ids (asDe l)=l
 | []=>rfl
 | a :: l=>by show a :: ids (asDe l)=_;rw [ids_asDe l]
theorem asDe_len (l:List Int):(asDe l).length=l.length:=by simp [asDe]
theorem cntI_le (l:List Int) (x:Int):cntI l x <= l.length:=by
 have:=cnt_le (asDe l) x
 rw [cntI_ids,ids_asDe,asDe_len] at this;exact this
theorem cntI_lt {l:List Int} (hs:l.Pairwise (· < ·)) {x:Int} {i:Nat} (h:i < l.length):l[i] < x ↔ i < cntI l x:=by
 have:=cnt_lt (l:=asDe l) (id:=x) (by show (ids (asDe l)).Pairwise _;rw [ids_asDe];exact hs) i (by rw [asDe_len];exact h)
 rw [cntI_ids,ids_asDe] at this
 rw [<- this]
 simp [asDe]
theorem cntI_found {l:List Int} (hs:l.Pairwise (· < ·)) {x:Int}:(∃ h:cntI l x < l.length,l[cntI l x]=x) ↔ x ∈ l:=by
 have:=cnt_found (l:=asDe l) (id:=x) (by show (ids (asDe l)).Pairwise _;rw [ids_asDe];exact hs)
 rw [ids_asDe] at this
 rw [<- this]
 constructor
 ·rintro ⟨h,e⟩
  refine ⟨by rw [cntI_ids,ids_asDe,asDe_len];exact h,?_⟩
  have e1:cnt (asDe l) x=cntI l x:=by rw [cntI_ids,ids_asDe]
  simp only [e1]
  simpa [asDe] using e
 ·rintro ⟨h,e⟩
  have e1:cnt (asDe l) x=cntI l x:=by rw [cntI_ids,ids_asDe]
  simp only [e1] at e
  refine ⟨by rw [e1,asDe_len] at h;exact h,?_⟩
  simpa [asDe] using e
theorem filter_gt:∀ {l:List Int},l.Pairwise (· < ·)->∀ p:Int,l.filter (fun x=>decide (p < x))=l.drop (cntI l p + if p ∈ l then 1 else 0)
 | [],_,p=>rfl
 | a :: r,hs,p=>by
  have ih:r.filter (fun x=>decide (p < x))=r.drop (cntI r p + if p ∈ r then 1 else 0):=filter_gt (l:=r) (List.Pairwise.of_cons hs) p
  have hr:∀ b ∈ r,a < b:=fun b hb=>List.rel_of_pairwise_cons hs hb
  rw [List.filter_cons]
  unfold cntI
  by_cases h1:a < p
  ·rw [if_neg (by simp;omega),if_pos h1,ih]
   have:(p ∈ a :: r) ↔ p ∈ r:=by
    rw [List.mem_cons]
    exact ⟨fun h=>h.resolve_left (by omega),.inr⟩
   simp only [this]
   rw [show cntI r p + 1 + (if p ∈ r then 1 else 0)=(cntI r p + if p ∈ r then 1 else 0) + 1 by omega,List.drop_succ_cons]
  ·rw [if_neg h1]
   by_cases h2:a=p
   ·subst h2
    rw [if_neg (by simp),if_pos List.mem_cons_self]
    show _=r
    rw [List.filter_eq_self]
    intro b hb
    exact decide_eq_true (hr b hb)
   ·have hp:p ∉ a :: r:=fun h=>by
     rcases List.mem_cons.1 h with e | e
     ·exact h2 e.symm
     ·have:=hr p e;omega
    rw [if_pos (by simp;omega),if_neg hp]
    show a :: _=a :: r
    congr 1
    rw [List.filter_eq_self]
    intro b hb
    have:=hr b hb
    exact decide_eq_true (by omega)
theorem bsI_loop {N:Nat} {l:List Int} (hs:l.Pairwise (· < ·)) (hl:l.length <= 4611686018427387904) {x:Int}:∀ (m lo hi:Nat),lo <= cntI l x->cntI l x <= hi->hi <= l.length->hi - lo < m ->
  L_slices_BinarySearch_int_int_0 N m l x ((l.length:Nat):Int) (lo:Int) (hi:Int)=some (((cntI l x:Nat):Int),decide (x ∈ l))
 | 0,_,_,_,_,_,h=>absurd h (Nat.not_lt_zero _)
 | m + 1,lo,hi,h1,h2,h3,h=>by
  have hless:∀ a b:Int,G_cmp_Less_int N a b=some (decide (a < b)):=fun a b=>by
   unfold G_cmp_Less_int G_cmp_isNaN_int
   rw [show (a != a)=false by simp,show (b != b)=false by simp]
   simp only [q_bd,q_if0]
   try rfl
  show B_slices_BinarySearch_int_int_0 N (L_slices_BinarySearch_int_int_0 N m) l x _ _ _=_
  unfold B_slices_BinarySearch_int_int_0
  by_cases hlt:lo < hi
  ·rw [lt_t hlt,q_if1,q_ck (by omega) (by omega),show (lo:Int) + (hi:Int)=((lo + hi:Nat):Int) by omega,mid_eq (by omega)]
   have hm:(lo + hi) / 2 < l.length:=by omega
   rw [q_get (getn hm),hless]
   simp only [q_bd]
   have hc:=cntI_lt hs (x:=x) hm
   by_cases hlt2:l[(lo + hi) / 2] < x
   ·have:=hc.1 hlt2
    rw [decide_eq_true hlt2,q_if1,q_ck (by omega) (by omega),show (((lo + hi) / 2:Nat):Int) + 1=(((lo + hi) / 2 + 1:Nat):Int) by omega]
    exact bsI_loop hs hl m _ hi (by omega) h2 h3 (by omega)
   ·have:¬ (lo + hi) / 2 < cntI l x:=fun q=>hlt2 (hc.2 q)
    rw [decide_eq_false hlt2,q_if0]
    exact bsI_loop hs hl m lo _ h1 (by omega) (by omega) (by omega)
  ·have e:lo=cntI l x:=by omega
   rw [lt_f hlt,q_if0]
   have hf:=cntI_found hs (x:=x)
   by_cases hlen:lo < l.length
   ·rw [lt_t hlen,q_if1,q_get (getn hlen)]
    by_cases he:l[lo]=x
    ·have:x ∈ l:=hf.1 ⟨by omega,by simp only [<- e];exact he⟩
     rw [show (l[lo] == x)=true by simpa using he,q_if1,decide_eq_true this,<- e];rfl
    ·have:¬ x ∈ l:=fun q=>by
      obtain ⟨_,q⟩:=hf.2 q
      simp only [<- e] at q;exact he q
     rw [show (l[lo] == x)=false by simpa using he,q_if0,q_get (getn hlen)]
     unfold G_slices_isNaN_int
     rw [show (l[lo] != l[lo])=false by simp]
     simp only [q_bd,q_if0]
     rw [decide_eq_false this,e]
   ·rw [lt_f hlen,q_if0]
    have:¬ x ∈ l:=fun q=>by obtain ⟨q,_⟩:=hf.2 q;omega
    rw [decide_eq_false this,e];rfl
theorem bsI_eq {N:Nat} {l:List Int} (hs:l.Pairwise (· < ·)) (hl:l.length <= 4611686018427387904) (hN:l.length < N) {x:Int}:G_slices_BinarySearch_int_int N l x=some (((cntI l x:Nat):Int),decide (x ∈ l)):=by
 unfold G_slices_BinarySearch_int_int
 have:=bsI_loop (N:=N) hs hl (x:=x) N 0 l.length (Nat.zero_le _) (cntI_le _ _) (Nat.le_refl _) (by omega)
 rw [show ((0:Nat):Int)=0 from rfl] at this
 exact this

theorem okL_srt:∀ {r pre:List De},Srt pre->okL pre r=true->Srt (pre ++ r)
 | [],pre,hs,_=>by rw [List.append_nil];exact hs
 | d :: r,pre,hs,h=>by
  rw [okL,Bool.and_eq_true] at h
  have:Srt (pre ++ [d]):=srt_push hs fun e he=>by
   have h1:=h.1
   unfold okD at h1
   rw [he] at h1
   simp only [Bool.and_eq_true,Bool.not_eq_true',decide_eq_false_iff_not] at h1
   omega
  have:=okL_srt this h.2
  rwa [List.append_assoc] at this
theorem chk_ok {l:List De} (h:chk l=0):okL [] l=true:=by
 unfold chk at h
 split at h
 ·cases h
 ·split at h
  ·assumption
  ·cases h
theorem chk_srt {l:List De} (h:chk l=0):Srt l:=okL_srt (pre:=[]) List.Pairwise.nil (chk_ok h)
def nextF (l:List De) (T:List Int) (p:Int):Int × Int :=
 if chk l ≠ 0 then (0,chk l) else if asc T=false\/(T.all fun i=>decide (i ∈ ids l))=false then (0,1) else if p ≠ 0/\p ∉ T then (0,1) else
  match T.drop (cntI T p + if p ∈ T then 1 else 0) with
  | []=>(0,8)
  | x :: _=>(x,0)
theorem next_eq {N:Nat} {l:List De} (hf:Few N l) {T:List Int} {p:Int} (hT:T.length <= 4611686018427387904) (hN:T.length < N):G_lineage_Next N l (T,p)=some (nextF l T p):=by
 unfold G_lineage_Next nextF
 rw [check_eq hf]
 simp only [q_bd]
 by_cases hc:chk l=0
 ·rw [hc]
  simp only [bne_self_eq_false,q_if0,ne_eq,not_true_eq_false,if_false]
  rw [ascends_eq hT hN]
  simp only [q_bd]
  cases ha:asc T with
  | false=>simp
  | true =>
   have hs:=asc_iff.1 ha
   rw [known_eq (chk_srt hc) hf.big hf.len hT hN]
   cases hk:T.all fun i=>decide (i ∈ ids l) with
   | false=>simp [hk]
   | true =>
    simp only [q_bd,q_ifn,q_if1,Bool.not_true,q_if0,bsI_eq hs hT hN,Bool.true_eq_false,or_self,if_false]
    have hle:=cntI_le T p
    have hfd:=cntI_found hs (x:=p)
    by_cases hp:p ∈ T
    ·obtain ⟨hlt,_⟩:=hfd.2 hp
     simp only [hp,decide_true,Bool.not_true,not_true_eq_false,and_false,if_false,if_true,q_if1]
     have e1:(if? (p != 0) (some (((cntI T p:Nat):Int),true,false,T,p)) (some (((cntI T p:Nat):Int),true,false,T,p)))=some (((cntI T p:Nat):Int),true,false,T,p):=by cases p != 0 <;> rfl
     rw [e1]
     simp only [q_bd,q_if0,q_if1]
     rw [q_ck (by omega) (by omega)]
     simp only [q_bd]
     by_cases hend:cntI T p + 1=T.length
     ·rw [show ((((cntI T p:Nat):Int) + 1) == ((T.length:Nat):Int))=true by simp;omega,q_if1,List.drop_of_length_le (by omega)]
     ·rw [show ((((cntI T p:Nat):Int) + 1) == ((T.length:Nat):Int))=false by simp;omega,q_if0,List.drop_eq_getElem_cons (show cntI T p + 1 < T.length by omega),show (((cntI T p:Nat):Int) + 1)=((cntI T p + 1:Nat):Int) by omega,q_get (getn (by omega))]
    ·simp only [hp,decide_false,Bool.not_false,not_false_eq_true,and_true,if_false,Nat.add_zero]
     by_cases h0:p=0
     ·subst h0
      simp only [bne_self_eq_false,q_if0,q_bd,not_true_eq_false,if_false]
      by_cases hend:cntI T 0=T.length
      ·rw [show (((cntI T 0:Nat):Int) == ((T.length:Nat):Int))=true by simp;omega,q_if1,List.drop_of_length_le (by omega)]
      ·rw [show (((cntI T 0:Nat):Int) == ((T.length:Nat):Int))=false by simp;omega,q_if0,List.drop_eq_getElem_cons (show cntI T 0 < T.length by omega),q_get (getn (by omega))]
     ·rw [show (p != 0)=true by simpa using h0]
      simp [h0]
 ·rw [if_pos hc,show (chk l != 0)=true by simpa using hc];rfl
end Go.Proofs.Try

set_option synthInstance.maxSize 100000000
set_option synthInstance.maxHeartbeats 4000000
set_option maxRecDepth 100000
namespace Go.Proofs.Try
open Go.Eng Go.RowKit

theorem idx_loop {is:List Int} {x:Int} (hl:is.length <= 4611686018427387904):∀ (m k:Nat),k <= is.length->is.length - k < m ->
  ∃ r:Int,L_slices_Index_int_int_0 m is x ((is.length:Nat):Int) (k:Int)=some r/\decide (r ≥ 0)=decide (x ∈ is.drop k)
 | 0,_,_,h=>absurd h (Nat.not_lt_zero _)
 | m + 1,k,h1,h=>by
  show ∃ r:Int,B_slices_Index_int_int_0 (L_slices_Index_int_int_0 m) is x _ _=_/\_
  unfold B_slices_Index_int_int_0
  by_cases hlt:k < is.length
  ·rw [lt_t hlt,q_if1,q_get (getn hlt),List.drop_eq_getElem_cons hlt]
   by_cases he:x=is[k]
   ·exact ⟨k,by rw [show (x == is[k])=true by simpa using he,q_if1],by rw [decide_eq_true (show (k:Int) ≥ 0 by omega),decide_eq_true (show x ∈ is[k] :: is.drop (k + 1) by rw [<- he];exact List.mem_cons_self)]⟩
   ·obtain ⟨r,e1,e2⟩:=idx_loop (x:=x) hl m (k + 1) (by omega) (by omega)
    refine ⟨r,by rw [show (x == is[k])=false by simpa using he,q_if0,q_ck (by omega) (by omega),show ((k:Int) + 1)=((k + 1:Nat):Int) by omega];exact e1,?_⟩
    rw [e2]
    congr 1
    rw [List.mem_cons]
    simp [he]
  ·exact ⟨-1,by rw [lt_f hlt,q_if0],by rw [List.drop_of_length_le (by omega)];simp⟩
theorem contains_eq {N:Nat} {is:List Int} {x:Int} (hl:is.length <= 4611686018427387904) (hN:is.length < N):G_slices_Contains_int_int N is x=some (decide (x ∈ is)):=by
 unfold G_slices_Contains_int_int G_slices_Index_int_int
 obtain ⟨r,e1,e2⟩:=idx_loop (x:=x) hl N 0 (Nat.zero_le _) (by omega)
 have e1:L_slices_Index_int_int_0 N is x ((is.length:Nat):Int) 0=some r:=e1
 rw [e1]
 show some (decide (r ≥ 0))=_
 rw [e2,List.drop_zero]
theorem cloneI_eq {N:Nat} {l:List Int} (hl:l.length <= 17592186044415):G_slices_Clone_int_int N l=some l:=by
 unfold G_slices_Clone_int_int
 rw [q_gdT (show l.length * 8 <= 140737488355328 by omega),q_gl]
 cases l with
 | nil=>simp
 | cons a r=>simp
theorem compactUpTo_len {d:Array Int}:∀ m,(Go.Lib.compactUpTo d m).length <= m
 | 0=>by simp [Go.Lib.compactUpTo]
 | m + 1=>by
  rw [Go.Lib.compactUpTo_succ,List.length_append]
  have:=compactUpTo_len (d:=d) m
  split <;> simp <;> omega
theorem compact_spec {zs:List Int} (hs:zs.Pairwise (· <= ·)):(Go.Lib.compact zs).Pairwise (· < ·)/\∀ x,x ∈ Go.Lib.compact zs ↔ x ∈ zs:=by
 have get:∀ m,m < zs.length->zs.toArray[m]! = zs[m]!:=fun m h=>by simp
 have main:∀ m,m <= zs.length->(Go.Lib.compactUpTo zs.toArray m).Pairwise (· < ·)/\(∀ x,x ∈ Go.Lib.compactUpTo zs.toArray m ↔ x ∈ zs.take m):=by
  intro m
  induction m with
  | zero=>intro _;simp [Go.Lib.compactUpTo]
  | succ m ih =>
   intro hm
   obtain ⟨i1,i2⟩:=ih (by omega)
   rw [Go.Lib.compactUpTo_succ]
   have e1:zs.take (m + 1)=zs.take m ++ [zs[m]]:=List.take_succ_eq_append_getElem (by omega)
   have e2:zs.toArray[m]! = zs[m]:=by simp [show m < zs.length by omega]
   have hle:∀ x ∈ zs.take m,x <= zs[m]:=fun x hx=>by
    obtain ⟨j,hj,rfl⟩:=List.getElem_of_mem hx
    rw [List.length_take] at hj
    rw [List.getElem_take]
    exact List.pairwise_iff_getElem.1 hs j m (by omega) (by omega) (by omega)
   by_cases hk:Go.Lib.keeps zs.toArray m=true
   ·rw [if_pos hk,e2,e1]
    have hlt:∀ x ∈ zs.take m,x < zs[m]:=fun x hx=>by
     have h1:=hle x hx
     rcases Nat.eq_zero_or_pos m with h0 | h0
     ·subst h0;simp at hx
     ·have hne:zs[m - 1] ≠ zs[m]:=by
       have hk2:=hk
       unfold Go.Lib.keeps at hk2
       simp at hk2
       rcases hk2 with h | h
       ·omega
       ·have e3:m - 1 < zs.length:=by omega
        have e4:m < zs.length:=by omega
        simpa [e3,e4,eq_comm] using h
      obtain ⟨j,hj,rfl⟩:=List.getElem_of_mem hx
      rw [List.length_take] at hj
      rw [List.getElem_take] at h1 |-
      have h2:zs[j] <= zs[m - 1]:=by
       rcases Nat.lt_or_ge j (m - 1) with q | q
       ·exact List.pairwise_iff_getElem.1 hs j (m - 1) (by omega) (by omega) q
       ·have:j=m - 1:=by omega
        subst this;exact Int.le_refl _
      have h3:zs[m - 1] <= zs[m]:=List.pairwise_iff_getElem.1 hs (m - 1) m (by omega) (by omega) (by omega)
      omega
    refine ⟨?_,fun x=>?_⟩
    ·rw [List.pairwise_append]
     refine ⟨i1,by simp,fun a ha b hb=>?_⟩
     rw [List.mem_singleton.1 hb]
     exact hlt a ((i2 a).1 ha)
    ·rw [List.mem_append,List.mem_append,i2]
   ·rw [if_neg hk,List.append_nil]
    refine ⟨i1,fun x=>?_⟩
    rw [i2,e1,List.mem_append,List.mem_singleton]
    constructor
    ·exact .inl
    ·rintro (h | rfl)
     ·exact h
     ·unfold Go.Lib.keeps at hk
      simp at hk
      obtain ⟨h0,hk⟩:=hk
      have e3:m - 1 < zs.length:=by omega
      have e4:m < zs.length:=by omega
      have:zs[m]=zs[m - 1]:=by simpa [e3,e4] using hk
      rw [this]
      exact List.mem_iff_getElem.2 ⟨m - 1,by rw [List.length_take];omega,by rw [List.getElem_take]⟩
 obtain ⟨h1,h2⟩:=main zs.length (Nat.le_refl _)
 exact ⟨h1,fun x=>by have:=h2 x;rw [List.take_length] at this;exact this⟩
def onIt (id:Int) (l:List De):List Int:=(l.filter fun d=>decide (id ∈ d.2.2)).map (·.1)
theorem onIt_len (id:Int) (l:List De):(onIt id l).length <= l.length:=by
 unfold onIt
 rw [List.length_map]
 exact List.length_filter_le _ _
theorem done_loop {N:Nat} {l:List De} {id a11 a12:Int} (hf:Few N l) (hl:l.length <= 8796093022207):∀ (m k:Nat) (out:List Int),k <= l.length->l.length - k < m->out.length <= 8796093022207 + k ->
  L_lineage_Done_0 N m id l ((l.length:Nat):Int) (k:Int) a11 a12 [] out=some (Go.Lib.compact (srt (out ++ onIt id (l.drop k))),(a12,0))
 | 0,_,_,_,h,_=>absurd h (Nat.not_lt_zero _)
 | m + 1,k,out,h1,h,h2=>by
  show B_lineage_Done_0 N (L_lineage_Done_0 N m) id l _ _ _ _ _ _=_
  unfold B_lineage_Done_0
  by_cases hlt:k < l.length
  ·have hm:=List.getElem_mem hlt
   have ho:=hf.of _ hm
   rw [lt_t hlt,q_if1,q_get (getn hlt),List.drop_eq_getElem_cons hlt,contains_eq ho.2 ho.1]
   simp only [q_bd]
   have e0:onIt id (l[k] :: l.drop (k + 1))=(if id ∈ l[k].2.2 then [l[k].1] else []) ++ onIt id (l.drop (k + 1)):=by
    unfold onIt
    rw [List.filter_cons]
    by_cases hi:id ∈ l[k].2.2
    ·rw [if_pos (decide_eq_true hi),if_pos hi];rfl
    ·rw [if_neg (by simpa using hi),if_neg hi];rfl
   rw [e0]
   by_cases hi:id ∈ l[k].2.2
   ·rw [decide_eq_true hi,if_pos hi]
    simp only [q_if1,q_gl]
    rw [q_gdT (by simp;omega)]
    simp only [q_bd,q_gl]
    rw [q_ck (by omega) (by omega),show ((k:Int) + 1)=((k + 1:Nat):Int) by omega,done_loop hf hl m (k + 1) (out ++ [l[k].1]) (by omega) (by omega) (by simp;omega)]
    simp
   ·rw [decide_eq_false hi,if_neg hi]
    simp only [q_if0,q_gl,q_bd]
    rw [q_ck (by omega) (by omega),show ((k:Int) + 1)=((k + 1:Nat):Int) by omega,done_loop hf hl m (k + 1) out (by omega) (by omega) (by omega)]
    simp
  ·rw [lt_f hlt,q_if0,List.drop_of_length_le (by omega),q_gl]
   have hp:=srt_perm out
   have e1:G_slices_Sort_int_int N out=some (srt out):=by
    unfold G_slices_Sort_int_int
    rw [if_pos (by omega)]
   have e2:G_slices_Compact_int_int N (srt out)=some (Go.Lib.compact (srt out)):=by
    unfold G_slices_Compact_int_int
    rw [if_pos (by rw [hp.length_eq];omega)]
   rw [e1]
   simp only [q_bd]
   rw [q_glT hp.length_eq.symm,e2]
   simp only [q_bd,q_gl]
   simp [onIt]
def doneF (l:List De) (T:List Int) (p:Int) (ch:Bool):List Int × Int × Int :=
 let q:=nextF l T p
 if q.2 ≠ 0 then ([],(0,q.2)) else if ch=true then (Go.Lib.compact (srt (T ++ onIt q.1 l)),(q.1,0)) else (T,(q.1,0))
theorem done_eq {N:Nat} {l:List De} (hf:Few N l) (hl:l.length <= 8796093022207) {T:List Int} {p:Int} {ch:Bool} (hT:T.length <= 8796093022207) (hN:T.length < N):G_lineage_Done N l (T,p) ch=some (doneF l T p ch):=by
 unfold G_lineage_Done doneF
 have:=next_eq (N:=N) hf (T:=T) (p:=p) (by omega) hN
 simp only
 rw [this]
 simp only [q_bd]
 generalize nextF l T p=q
 by_cases h:q.2=0
 ·rw [show (q.2 != 0)=false by simpa using h,q_if0,if_neg (fun e=>e h),cloneI_eq (by omega)]
  simp only [q_bd,q_gl]
  cases ch with
  | false=>rfl
  | true =>
   rw [q_ifn,q_if1]
   have:=done_loop (id:=q.1) (a11:=0) (a12:=q.1) hf hl N 0 T (Nat.zero_le _) (by have:=hf.len;omega) (by omega)
   rw [List.drop_zero] at this
   exact this
 ·rw [show (q.2 != 0)=true by simpa using h,if_pos h];rfl
end Go.Proofs.Try

set_option synthInstance.maxSize 100000000
set_option synthInstance.maxHeartbeats 4000000
set_option maxRecDepth 100000
namespace Go.Proofs.Try
open Go.Eng Go.RowKit

theorem mGet_set {α β:Type} [DecidableEq α] (es:List (α × β)) (k:α) (v:β) (j:α):mGet (mSet es k v) j=if j=k then some v else mGet es j:=by
 induction es with
 | nil=>simp only [mSet,mGet];split <;> simp_all [eq_comm]
 | cons e es ih =>
  unfold mSet
  split
  ·rename_i h
   simp only [mGet]
   split <;> rename_i h2
   ·rw [if_pos h2.symm]
   ·rw [if_neg (fun h3=>h2 h3.symm)]
    rw [if_neg (fun h3=>h2 (by rw [<- h,h3]))]
  ·rename_i h
   simp only [mGet,ih]
   split <;> rename_i h2
   ·rw [if_neg (fun h3=>h (by rw [h2,h3]))]
   ·rfl
theorem has_set (mv:MB) (k:Int) (b:Bool) (j:Int):has (mSet mv k b) j=if j=k then b else has mv j:=by
 unfold has
 rw [mGet_set]
 split <;> rfl
theorem okL_split:∀ {a pre b:List De} {d:De},okL pre (a ++ d :: b)=true->okD (pre ++ a) d=true
 | [],pre,b,d,h=>by
  rw [List.nil_append,okL,Bool.and_eq_true] at h
  rw [List.append_nil];exact h.1
 | x :: a,pre,b,d,h=>by
  rw [List.cons_append,okL,Bool.and_eq_true] at h
  have:=okL_split (a:=a) h.2
  rwa [List.append_assoc] at this
theorem chk_at {l:List De} (h:chk l=0) {k:Nat} (hk:k < l.length):okD (l.take k) l[k]=true:=by
 have:=chk_ok h
 have e:l=l.take k ++ l[k] :: l.drop (k + 1):=by rw [<- List.drop_eq_getElem_cons hk,List.take_append_drop]
 rw [e] at this
 have:=okL_split (pre:=[]) this
 rwa [List.nil_append] at this
theorem chk_of {l:List De} (h:chk l=0) {k:Nat} (hk:k < l.length):∀ o ∈ l[k].2.2,o ∈ ids (l.take k):=by
 have:=chk_at h hk
 unfold okD at this
 rw [Bool.and_eq_true] at this
 intro o ho
 exact of_decide_eq_true (List.all_eq_true.1 this.2 o ho)
theorem chk_pos {l:List De} (h:chk l=0) {k:Nat} (hk:k < l.length):1 <= l[k].1:=by
 have:=chk_at h hk
 unfold okD at this
 rw [Bool.and_eq_true,Bool.and_eq_true] at this
 have h2:=this.1.2
 unfold rightB at h2
 simp only [Bool.and_eq_true,Bool.not_eq_true',Bool.or_eq_false_iff,decide_eq_false_iff_not] at h2
 omega
theorem srt_lt {l:List De} (hs:Srt l) {i j:Nat} (hj:j < l.length) (h:i < j):(l[i]'(by omega)).1 < l[j].1:=by
 have:=List.pairwise_iff_getElem.1 hs i j (by rw [List.length_map];omega) (by rw [List.length_map];omega) h
 simpa using this
def sel (q:De->Bool) (l:List De):List Int:=ids (l.filter q)
theorem sel_srt {q:De->Bool} {l:List De} (hs:Srt l):(sel q l).Pairwise (· < ·):=List.Pairwise.sublist (List.Sublist.map _ List.filter_sublist) hs
theorem mem_sel {q:De->Bool} {l:List De} {x:Int}:x ∈ sel q l ↔ ∃ d ∈ l,q d=true/\d.1=x:=by
 unfold sel
 rw [List.mem_map]
 constructor
 ·rintro ⟨d,hd,rfl⟩
  obtain ⟨h1,h2⟩:=List.mem_filter.1 hd
  exact ⟨d,h1,h2,rfl⟩
 ·rintro ⟨d,h1,h2,rfl⟩
  exact ⟨d,List.mem_filter.2 ⟨h1,h2⟩,rfl⟩
theorem sel_sub {q:De->Bool} {l:List De} {x:Int} (h:x ∈ sel q l):x ∈ ids l:=by
 obtain ⟨d,h1,_,rfl⟩:=mem_sel.1 h
 exact List.mem_map.2 ⟨d,h1,rfl⟩
theorem srt_drop {l:List De} (hs:Srt l) (k:Nat):Srt (l.drop k):=List.Pairwise.sublist (List.Sublist.map _ (List.drop_sublist k l)) hs
theorem sel_gt {q:De->Bool} {l:List De} (hs:Srt l) {k:Nat} (hk:k < l.length):(sel q l).filter (fun x=>decide (l[k].1 < x))=sel q (l.drop (k + 1)):=by
 refine asc_ext (List.Pairwise.sublist List.filter_sublist (sel_srt hs)) (sel_srt (srt_drop hs _)) fun x=>?_
 rw [List.mem_filter,mem_sel,mem_sel]
 constructor
 ·rintro ⟨⟨d,hd,hq,rfl⟩,hx⟩
  have hx:=of_decide_eq_true hx
  obtain ⟨j,hj,rfl⟩:=List.getElem_of_mem hd
  have:k < j:=by
   rcases Nat.lt_trichotomy k j with h | h | h
   ·exact h
   ·subst h;omega
   ·have:=srt_lt hs hk h;omega
  exact ⟨l[j],List.mem_iff_getElem.2 ⟨j - (k + 1),by rw [List.length_drop];omega,by rw [List.getElem_drop];congr 1;omega⟩,hq,rfl⟩
 ·rintro ⟨d,hd,hq,rfl⟩
  obtain ⟨j,hj,rfl⟩:=List.getElem_of_mem hd
  rw [List.length_drop] at hj
  rw [List.getElem_drop] at *
  exact ⟨⟨_,List.getElem_mem _,hq,rfl⟩,decide_eq_true (srt_lt hs (by omega) (by omega))⟩
theorem next_on {l:List De} (hc:chk l=0) {T:List Int} (hs:T.Pairwise (· < ·)) (hsub:∀ x ∈ T,x ∈ ids l) {p:Int} (hp:p=0\/p ∈ T):nextF l T p=(match T.filter fun x=>decide (p < x) with
  | []=>(0,8)
  | x :: _=>(x,0)):=by
 have n1:¬ (asc T=false\/(T.all fun i=>decide (i ∈ ids l))=false):=fun h=>by
  rcases h with h | h
  ·rw [asc_iff.2 hs] at h;cases h
  ·rw [List.all_eq_true.2 (fun x hx=>decide_eq_true (hsub x hx))] at h;cases h
 have n2:¬ (p ≠ 0/\p ∉ T):=fun h=>by
  rcases hp with h0 | h0
  ·exact h.1 h0
  ·exact h.2 h0
 unfold nextF
 rw [if_neg (fun h=>h hc),if_neg n1,if_neg n2,filter_gt hs]
 try rfl
def due (cs:List Ch) (mv:MB) (d:De):Bool:=cs.any (tch d) || d.2.2.any (has mv)
theorem due_set {cs:List Ch} {mv:MB} {id:Int} {d:De}:due cs (mSet mv id true) d=(due cs mv d || decide (id ∈ d.2.2)):=by
 unfold due
 rw [Bool.or_assoc]
 congr 1
 rw [Bool.eq_iff_iff,Bool.or_eq_true,List.any_eq_true,List.any_eq_true,decide_eq_true_eq]
 constructor
 ·rintro ⟨o,ho,h⟩
  rw [has_set] at h
  split at h
  ·rename_i e;subst e;exact .inr ho
  ·exact .inl ⟨o,ho,h⟩
 ·rintro (⟨o,ho,h⟩ | h)
  ·exact ⟨o,ho,by rw [has_set];split <;> first | rfl | exact h⟩
  ·exact ⟨id,h,by rw [has_set,if_pos rfl]⟩
theorem done_sel {l:List De} (hs:Srt l) {cs:List Ch} {mv:MB} {id:Int}:Go.Lib.compact (srt (sel (due cs mv) l ++ onIt id l))=sel (due cs (mSet mv id true)) l:=by
 obtain ⟨h1,h2⟩:=compact_spec (srt_sorted (sel (due cs mv) l ++ onIt id l))
 refine asc_ext h1 (sel_srt hs) fun x=>?_
 rw [h2,(srt_perm _).mem_iff,List.mem_append,mem_sel,mem_sel]
 have e:x ∈ onIt id l ↔ ∃ d ∈ l,id ∈ d.2.2/\d.1=x:=by
  show x ∈ sel (fun d=>decide (id ∈ d.2.2)) l ↔ _
  rw [mem_sel]
  simp
 rw [e]
 constructor
 ·rintro (⟨d,h1,h2,h3⟩ | ⟨d,h1,h2,h3⟩)
  ·exact ⟨d,h1,by rw [due_set,h2];rfl,h3⟩
  ·exact ⟨d,h1,by rw [due_set,decide_eq_true h2,Bool.or_true],h3⟩
 ·rintro ⟨d,h1,h2,h3⟩
  rw [due_set,Bool.or_eq_true,decide_eq_true_eq] at h2
  rcases h2 with h2 | h2
  ·exact .inl ⟨d,h1,h2,h3⟩
  ·exact .inr ⟨d,h1,h2,h3⟩
structure WInv (l:List De) (cs:List Ch) (k:Nat) (T:List Int) (p:Int) (mv:MB):Prop where
 tt:T=sel (due cs mv) l
 pp:p=0\/p ∈ T
 ff:T.filter (fun x=>decide (p < x))=sel (due cs mv) (l.drop k)
 mm:∀ x,has mv x=true->x ∈ ids (l.take k)
theorem WInv.next {l:List De} {cs:List Ch} {k:Nat} {T:List Int} {p:Int} {mv:MB} (h:WInv l cs k T p mv) (hc:chk l=0):nextF l T p=(match sel (due cs mv) (l.drop k) with
  | []=>(0,8)
  | x :: _=>(x,0)):=by
 have hs:=chk_srt hc
 rw [next_on hc (by rw [h.tt];exact sel_srt hs) (fun x hx=>by rw [h.tt] at hx;exact sel_sub hx) h.pp,h.ff]
theorem sel_cons {q:De->Bool} {d:De} {l:List De}:sel q (d :: l)=if q d=true then d.1 :: sel q l else sel q l:=by
 unfold sel
 rw [List.filter_cons]
 split <;> rfl
theorem WInv.start {l:List De} {cs:List Ch} (hc:chk l=0):WInv l cs 0 (tids cs l) 0 []:=by
 have e:due cs []=fun d=>cs.any (tch d):=by
  funext d
  unfold due
  have:d.2.2.any (has [])=false:=by
   rw [List.any_eq_false]
   intro x _;simp [has,mGet]
  rw [this,Bool.or_false]
 have et:tids cs l=sel (due cs []) l:=by rw [e];rfl
 refine ⟨et,.inl rfl,?_,fun x h=>by simp [has,mGet] at h⟩
 rw [List.drop_zero,et]
 rw [List.filter_eq_self]
 intro x hx
 obtain ⟨d,hd,_,rfl⟩:=mem_sel.1 hx
 obtain ⟨j,hj,rfl⟩:=List.getElem_of_mem hd
 have:=chk_pos hc hj
 exact decide_eq_true (by omega)
theorem WInv.skip {l:List De} {cs:List Ch} {k:Nat} {T:List Int} {p:Int} {mv:MB} (h:WInv l cs k T p mv) (hk:k < l.length) (hd:due cs mv l[k]=false):WInv l cs (k + 1) T p mv:=by
 refine ⟨h.tt,h.pp,?_,fun x hx=>?_⟩
 ·rw [h.ff,List.drop_eq_getElem_cons hk,sel_cons,if_neg (by rw [hd];exact Bool.false_ne_true)]
 ·have:=h.mm x hx
  rw [List.take_succ_eq_append_getElem hk,ids,List.map_append]
  exact List.mem_append_left _ this
theorem WInv.yes {l:List De} {cs:List Ch} {k:Nat} {T:List Int} {p:Int} {mv:MB} (h:WInv l cs k T p mv) (hc:chk l=0) (hk:k < l.length) (hd:due cs mv l[k]=true):WInv l cs (k + 1) (Go.Lib.compact (srt (T ++ onIt l[k].1 l))) l[k].1 (mSet mv l[k].1 true):=by
 have hs:=chk_srt hc
 have e:Go.Lib.compact (srt (T ++ onIt l[k].1 l))=sel (due cs (mSet mv l[k].1 true)) l:=by rw [h.tt];exact done_sel hs
 refine ⟨e,.inr ?_,by rw [e];exact sel_gt hs hk,fun x hx=>?_⟩
 ·rw [e]
  exact mem_sel.2 ⟨_,List.getElem_mem hk,by rw [due_set,hd];rfl,rfl⟩
 ·rw [List.take_succ_eq_append_getElem hk,ids,List.map_append,List.mem_append]
  rw [has_set] at hx
  split at hx
  ·rename_i e;exact .inr (by simp [e])
  ·exact .inl (h.mm x hx)
theorem due_no {l:List De} (hc:chk l=0) {cs:List Ch} {mv:MB} {k:Nat} (hk:k < l.length) (hm:∀ x,has mv x=true->x ∈ ids (l.take k)):due cs (mSet mv l[k].1 false)=due cs mv:=by
 have h0:has mv l[k].1=false:=by
  cases h:has mv l[k].1 with
  | false=>rfl
  | true =>
   obtain ⟨d,hd,e⟩:=List.mem_map.1 (hm _ h)
   obtain ⟨j,hj,rfl⟩:=List.getElem_of_mem hd
   rw [List.length_take] at hj
   rw [List.getElem_take] at e
   have:=srt_lt (chk_srt hc) hk (show j < k by omega)
   omega
 have:has (mSet mv l[k].1 false)=has mv:=by
  funext x
  rw [has_set]
  split
  ·rename_i e;rw [e,h0]
  ·rfl
 funext d
 unfold due
 rw [this]
theorem WInv.no {l:List De} {cs:List Ch} {k:Nat} {T:List Int} {p:Int} {mv:MB} (h:WInv l cs k T p mv) (hc:chk l=0) (hk:k < l.length) (hd:due cs mv l[k]=true):WInv l cs (k + 1) T l[k].1 (mSet mv l[k].1 false):=by
 have hs:=chk_srt hc
 have e:=due_no hc (cs:=cs) hk h.mm
 refine ⟨by rw [e];exact h.tt,.inr ?_,by rw [e,h.tt];exact sel_gt hs hk,fun x hx=>?_⟩
 ·rw [h.tt]
  exact mem_sel.2 ⟨_,List.getElem_mem hk,hd,rfl⟩
 ·rw [List.take_succ_eq_append_getElem hk,ids,List.map_append,List.mem_append]
  rw [has_set] at hx
  split at hx
  ·cases hx
  ·exact .inl (h.mm x hx)
end Go.Proofs.Try

set_option synthInstance.maxSize 100000000
set_option synthInstance.maxHeartbeats 4000000
set_option maxRecDepth 100000
namespace Go.Proofs.Try
open Go.Eng Go.RowKit

theorem has_in:∀ (is:List Int) (mp:MB) (x:Int),has (inM mp is) x=(has mp x || decide (x ∈ is))
 | [],mp,x=>by simp [inM]
 | a :: is,mp,x=>by
  show has (inM (mSet mp a true) is) x=_
  rw [has_in is,has_set]
  by_cases h:x=a
  ·rw [if_pos h];simp [h]
  ·rw [if_neg h];simp [h]
def runL (cs:List Ch):List De->MB->List Int
 | [],_=>[]
 | d :: r,mv=>if due cs mv d=true then d.1 :: runL cs r (mSet mv d.1 true) else runL cs r mv
theorem mem_take {l:List De} {x:Int} {k:Nat} (h:x ∈ ids (l.take k)):∃ j,∃ hj:j < l.length,j < k/\l[j].1=x:=by
 obtain ⟨d,hd,rfl⟩:=List.mem_map.1 h
 obtain ⟨j,hj,rfl⟩:=List.getElem_of_mem hd
 rw [List.length_take] at hj
 exact ⟨j,by omega,by omega,by rw [List.getElem_take]⟩
theorem clo_run {l:List De} (hc:chk l=0) {cs:List Ch}:∀ (n k:Nat) (mp mv:MB),l.length - k=n->(∀ x ∈ ids (l.take k),has mp x=has mv x)->(∀ j (hj:j < l.length),k <= j->has mp l[j].1=cs.any (tch l[j]))->(∀ x,has mv x=true->x ∈ ids (l.take k)) ->
  clo (l.drop k) mp=runL cs (l.drop k) mv
 | 0,k,mp,mv,hn,_,_,_=>by rw [List.drop_of_length_le (by omega)];rfl
 | n + 1,k,mp,mv,hn,h1,h2,h3=>by
  have hk:k < l.length:=by omega
  have hs:=chk_srt hc
  rw [List.drop_eq_getElem_cons hk,clo,runL]
  have hof:l[k].2.2.any (has mp)=l[k].2.2.any (has mv):=by
   rw [Bool.eq_iff_iff,List.any_eq_true,List.any_eq_true]
   constructor
   ·rintro ⟨o,ho,h⟩;exact ⟨o,ho,by rw [<- h1 o (chk_of hc hk o ho)];exact h⟩
   ·rintro ⟨o,ho,h⟩;exact ⟨o,ho,by rw [h1 o (chk_of hc hk o ho)];exact h⟩
  have hdue:(has mp l[k].1 || l[k].2.2.any (has mp))=due cs mv l[k]:=by rw [h2 k hk (Nat.le_refl _),hof];rfl
  have hlater:∀ j (hj:j < l.length),k + 1 <= j->l[j].1 ≠ l[k].1:=fun j hj q e=>by
   have:=srt_lt hs hj (show k < j by omega);omega
  have hmv0:has mv l[k].1=false:=by
   cases h:has mv l[k].1 with
   | false=>rfl
   | true =>
    obtain ⟨j,hj,q1,q2⟩:=mem_take (h3 _ h)
    have:=srt_lt hs hk q1;omega
  rw [hdue]
  have tk:∀ x,x ∈ ids (l.take (k + 1)) ↔ x ∈ ids (l.take k)\/x=l[k].1:=fun x=>by
   rw [List.take_succ_eq_append_getElem hk,ids,List.map_append,List.mem_append];simp
  cases hd:due cs mv l[k] with
  | true =>
   rw [if_pos rfl,if_pos rfl]
   congr 1
   refine clo_run hc n (k + 1) _ _ (by omega) (fun x hx=>?_) (fun j hj hkj=>?_) (fun x hx=>?_)
   ·rw [has_set,has_set]
    split
    ·rfl
    ·rename_i hne
     exact h1 x (((tk x).1 hx).resolve_right hne)
   ·rw [has_set,if_neg (hlater j hj hkj)]
    exact h2 j hj (by omega)
   ·rw [has_set] at hx
    rw [tk]
    split at hx
    ·rename_i e;exact .inr e
    ·exact .inl (h3 x hx)
  | false =>
   rw [if_neg Bool.false_ne_true,if_neg Bool.false_ne_true]
   refine clo_run hc n (k + 1) _ _ (by omega) (fun x hx=>?_) (fun j hj hkj=>h2 j hj (by omega)) (fun x hx=>(tk x).2 (.inl (h3 x hx)))
   rcases (tk x).1 hx with q | rfl
   ·exact h1 x q
   ·rw [hmv0,h2 k hk (Nat.le_refl _)]
    unfold due at hd
    rw [Bool.or_eq_false_iff] at hd
    exact hd.1
theorem clo_all {l:List De} (hc:chk l=0) {cs:List Ch}:clo l (inM [] (tids cs l))=runL cs l []:=by
 have:=clo_run hc (cs:=cs) l.length 0 (inM [] (tids cs l)) [] rfl (fun x hx=>by simp [ids] at hx) (fun j hj _=>?_) (fun x h=>by simp [has,mGet] at h)
 ·simpa using this
 ·rw [has_in]
  have:has [] l[j].1=false:=rfl
  rw [this,Bool.false_or,Bool.eq_iff_iff,decide_eq_true_eq]
  show l[j].1 ∈ sel (fun d=>cs.any (tch d)) l ↔ _
  rw [mem_sel]
  constructor
  ·rintro ⟨d,hd,hq,e⟩
   obtain ⟨i,hi,rfl⟩:=List.getElem_of_mem hd
   have:i=j:=by
    rcases Nat.lt_trichotomy i j with h | h | h
    ·have:=srt_lt (chk_srt hc) hj h;omega
    ·exact h
    ·have:=srt_lt (chk_srt hc) hi h;omega
   subst this;exact hq
  ·intro h;exact ⟨_,List.getElem_mem hj,h,rfl⟩
structure FInv (l:List De) (cs:List Ch) (A:List Int) (i k:Nat) (T:List Int) (p:Int) (mv:MB):Prop where
 w:WInv l cs k T p mv
 hk:k <= l.length
 dr:A.drop i=runL cs (l.drop k) mv
 ta:A.take i=sel (due cs mv) (l.take k)
theorem sel_app {q:De->Bool} {a b:List De}:sel q (a ++ b)=sel q a ++ sel q b:=by
 unfold sel ids
 rw [List.filter_append,List.map_append]
theorem FInv.skip {l:List De} {cs:List Ch} {A:List Int} {i k:Nat} {T:List Int} {p:Int} {mv:MB} (h:FInv l cs A i k T p mv) (hk:k < l.length) (hd:due cs mv l[k]=false):FInv l cs A i (k + 1) T p mv:=by
 refine ⟨h.w.skip hk hd,hk,?_,?_⟩
 ·rw [h.dr,List.drop_eq_getElem_cons hk,runL,if_neg (by rw [hd];exact Bool.false_ne_true)]
 ·rw [h.ta,List.take_succ_eq_append_getElem hk,sel_app,sel_cons,if_neg (by rw [hd];exact Bool.false_ne_true)]
  simp [sel]
theorem FInv.go {l:List De} {cs:List Ch} {A:List Int} {i:Nat} {T:List Int} {p:Int} {mv:MB}:∀ (n k:Nat),l.length - k=n->FInv l cs A i k T p mv->∃ k',FInv l cs A i k' T p mv/\(k'=l.length\/∃ hk:k' < l.length,due cs mv l[k']=true)
 | 0,k,hn,h=>⟨k,h,.inl (by have:=h.hk;omega)⟩
 | n + 1,k,hn,h=>by
  have hk:k < l.length:=by omega
  cases hd:due cs mv l[k] with
  | true=>exact ⟨k,h,.inr ⟨hk,hd⟩⟩
  | false=>exact FInv.go n (k + 1) (by omega) (h.skip hk hd)
theorem FInv.end {l:List De} {cs:List Ch} {A:List Int} {T:List Int} {p:Int} {mv:MB} {k:Nat} (hc:chk l=0) (h:FInv l cs A A.length k T p mv):nextF l T p=(0,8)/\T=A:=by
 obtain ⟨k',h,hk⟩:=FInv.go _ k rfl h
 have hdr:=h.dr
 rw [List.drop_of_length_le (Nat.le_refl _)] at hdr
 rcases hk with rfl | ⟨hk,hd⟩
 ·refine ⟨?_,?_⟩
  ·rw [h.w.next hc,List.drop_of_length_le (Nat.le_refl _)];rfl
  ·have:=h.ta
   rw [List.take_length,List.take_length] at this
   rw [this];exact h.w.tt
 ·rw [List.drop_eq_getElem_cons hk,runL,if_pos hd] at hdr
  cases hdr
theorem FInv.step {l:List De} {cs:List Ch} {A:List Int} {i k:Nat} {T:List Int} {p:Int} {mv:MB} (hc:chk l=0) (h:FInv l cs A i k T p mv) (hi:i < A.length) :
  nextF l T p=(A[i],0)/\∃ k' mv',FInv l cs A (i + 1) k' (Go.Lib.compact (srt (T ++ onIt A[i] l))) A[i] mv':=by
 obtain ⟨k',h,hk⟩:=FInv.go _ k rfl h
 have hdr:=h.dr
 rw [List.drop_eq_getElem_cons hi] at hdr
 rcases hk with rfl | ⟨hk,hd⟩
 ·rw [List.drop_of_length_le (Nat.le_refl _)] at hdr;cases hdr
 ·rw [List.drop_eq_getElem_cons hk,runL,if_pos hd] at hdr
  injection hdr with e1 e2
  have hn:=h.w.next hc
  rw [List.drop_eq_getElem_cons hk,sel_cons,if_pos hd] at hn
  rw [e1]
  refine ⟨hn,k' + 1,mSet mv l[k'].1 true,h.w.yes hc hk hd,hk,e2,?_⟩
  have e3:A.take (i + 1)=A.take i ++ [A[i]]:=List.take_succ_eq_append_getElem hi
  rw [e3,h.ta,List.take_succ_eq_append_getElem hk,sel_app,sel_cons,if_pos (by rw [due_set,hd];rfl),e1]
  congr 1
  unfold sel
  congr 1
  refine List.filter_congr fun d hdm=>?_
  obtain ⟨j,hj,rfl⟩:=List.getElem_of_mem hdm
  rw [List.length_take] at hj
  rw [List.getElem_take,due_set]
  have:¬ l[k'].1 ∈ (l[j]'(by omega)).2.2:=fun q=>by
   obtain ⟨m,hm,q1,q2⟩:=mem_take (chk_of hc (by omega) _ q)
   have:=srt_lt (chk_srt hc) hk (show m < k' by omega)
   omega
  rw [decide_eq_false this,Bool.or_false]
theorem FInv.start {l:List De} {cs:List Ch} (hc:chk l=0):FInv l cs (clo l (inM [] (tids cs l))) 0 0 (tids cs l) 0 [] :=
 ⟨.start hc,Nat.zero_le _,by rw [List.drop_zero,List.drop_zero];exact clo_all hc,by simp [sel]⟩
end Go.Proofs.Try

set_option synthInstance.maxSize 100000000
set_option synthInstance.maxHeartbeats 4000000
set_option maxRecDepth 100000
namespace Go.Proofs.Try
open Go.Eng Go.RowKit

theorem equal_loop {a:List Int} (hl:a.length <= 4611686018427387904):∀ (m k:Nat),k <= a.length->a.length - k < m->L_slices_Equal_int_int_0 m a a ((a.length:Nat):Int) (k:Int)=some true
 | 0,_,_,h=>absurd h (Nat.not_lt_zero _)
 | m + 1,k,h1,h=>by
  show B_slices_Equal_int_int_0 (L_slices_Equal_int_int_0 m) a a _ _=_
  unfold B_slices_Equal_int_int_0
  by_cases hlt:k < a.length
  ·rw [lt_t hlt,q_if1,q_get (getn hlt),q_get (getn hlt),show (a[k] != a[k])=false by simp,q_if0,q_ck (by omega) (by omega),show ((k:Int) + 1)=((k + 1:Nat):Int) by omega]
   exact equal_loop hl m (k + 1) (by omega) (by omega)
  ·rw [lt_f hlt,q_if0]
theorem equal_self {N:Nat} {a:List Int} (hl:a.length <= 4611686018427387904) (hN:a.length < N):G_slices_Equal_int_int N a a=some true:=by
 unfold G_slices_Equal_int_int
 rw [show (((a.length:Nat):Int) != ((a.length:Nat):Int))=false by simp,q_if0]
 exact equal_loop hl N 0 (Nat.zero_le _) (by omega)
theorem sel_len {q:De->Bool} {l:List De}:(sel q l).length <= l.length:=by
 unfold sel ids
 rw [List.length_map]
 exact List.length_filter_le _ _
theorem second {N:Nat} {l:List De} {cs:List Ch} {A:List Int} (hf:Few N l) (hl:l.length <= 8796093022207) (hc:chk l=0) (hA:A.length <= l.length):∀ (m i k:Nat) (T:List Int) (p:Int) (mv:MB),i <= A.length->A.length - i < m->FInv l cs A i k T p mv ->
  L_law26_LineageWaves_1 N m l 8 ((A.length:Nat):Int) (i:Int) A T p=some true
 | 0,_,_,_,_,_,_,h,_=>absurd h (Nat.not_lt_zero _)
 | m + 1,i,k,T,p,mv,h1,h,hI=>by
  have hlen:=hf.len
  have hT:T.length <= l.length:=by rw [hI.w.tt];exact sel_len
  have hn:=next_eq (N:=N) hf (T:=T) (p:=p) (by omega) (by omega)
  show B_law26_LineageWaves_1 N (L_law26_LineageWaves_1 N m) l 8 _ _ A T p=_
  unfold B_law26_LineageWaves_1
  rw [hn]
  by_cases hlt:i < A.length
  ·obtain ⟨e1,k',mv',hI'⟩:=hI.step hc hlt
   have hd:=done_eq (N:=N) hf hl (T:=T) (p:=p) (ch:=true) (by omega) (by omega)
   have hd2:doneF l T p true=(Go.Lib.compact (srt (T ++ onIt A[i] l)),(A[i],0)):=by unfold doneF;rw [e1];rfl
   rw [lt_t hlt,q_if1,q_gdT (by omega),q_gdT (by omega),Int.toNat_natCast,q_gn (getn hlt),hd,hd2,e1]
   simp only [q_bd,bne_self_eq_false,q_if0,q_gl]
   rw [q_ck (by omega) (by omega),show ((i:Int) + 1)=((i + 1:Nat):Int) by omega]
   exact second hf hl hc hA m (i + 1) k' _ _ mv' (by omega) (by omega) hI'
  ·have hi:i=A.length:=by omega
   subst hi
   obtain ⟨e1,e2⟩:=hI.end hc
   subst e2
   rw [lt_f hlt,q_if0,e1]
   simp only [q_bd,beq_self_eq_true,q_if1,q_gl,equal_self (N:=N) (a:=T) (by omega) (by omega)]
end Go.Proofs.Try

set_option synthInstance.maxSize 100000000
set_option synthInstance.maxHeartbeats 4000000
set_option maxRecDepth 100000
namespace Go.Proofs.Try
open Go.Eng Go.RowKit

theorem idxC1_loop {N:Nat} {d:De} {cs:List Ch} (hd:d.2.1.length <= 4611686018427387904) (hN:d.2.1.length < N) (hl:cs.length <= 4611686018427387904):∀ (m k:Nat),k <= cs.length->cs.length - k < m ->
  ∃ r:Int,L_slices_IndexFunc_Change_Change_1_0 N m cs ((cs.length:Nat):Int) (k:Int) d.1 d.2.1 d.2.2=some (r,d)/\decide (r ≥ 0)=(cs.drop k).any (tch d)
 | 0,_,_,h=>absurd h (Nat.not_lt_zero _)
 | m + 1,k,h1,h=>by
  show ∃ r:Int,B_slices_IndexFunc_Change_Change_1_0 N (L_slices_IndexFunc_Change_Change_1_0 N m) cs _ _ _ _ _=_/\_
  unfold B_slices_IndexFunc_Change_Change_1_0
  by_cases hlt:k < cs.length
  ·have ht:G_law26_LineageWaves_1 N (cs[k].1,(cs[k].2.1,(cs[k].2.2.1,cs[k].2.2.2))) d.1 d.2.1 d.2.2=some (tch d cs[k],d):=by
    unfold G_law26_LineageWaves_1
    have:=touches_eq (N:=N) (d:=d) (c:=cs[k]) hd hN
    have this:G_lineage_Touches N (d.1,(d.2.1,d.2.2)) (cs[k].1,(cs[k].2.1,(cs[k].2.2.1,cs[k].2.2.2)))=some (tch d cs[k]):=this
    rw [this];rfl
   rw [lt_t hlt,q_if1,q_get (getn hlt),List.drop_eq_getElem_cons hlt,List.any_cons,ht]
   simp only [q_bd]
   cases hb:tch d cs[k] with
   | true=>exact ⟨k,rfl,by simp⟩
   | false =>
    obtain ⟨r,e1,e2⟩:=idxC1_loop (N:=N) hd hN hl m (k + 1) (by omega) (by omega)
    exact ⟨r,by rw [q_if0,q_ck (by omega) (by omega),show ((k:Int) + 1)=((k + 1:Nat):Int) by omega];exact e1,by rw [e2];rfl⟩
  ·exact ⟨-1,by rw [lt_f hlt,q_if0],by rw [List.drop_of_length_le (by omega)];rfl⟩
theorem cfC1_eq {N:Nat} {d:De} {cs:List Ch} (hd:d.2.1.length <= 4611686018427387904) (hN:d.2.1.length < N) (hl:cs.length <= 4611686018427387904) (hN2:cs.length < N):G_slices_ContainsFunc_Change_Change_1 N cs d.1 d.2.1 d.2.2=some (cs.any (tch d),d):=by
 unfold G_slices_ContainsFunc_Change_Change_1 G_slices_IndexFunc_Change_Change_1
 obtain ⟨r,e1,e2⟩:=idxC1_loop (N:=N) (d:=d) hd hN hl N 0 (Nat.zero_le _) (by omega)
 have e1:L_slices_IndexFunc_Change_Change_1_0 N N cs ((cs.length:Nat):Int) 0 d.1 d.2.1 d.2.2=some (r,d):=e1
 rw [e1]
 show some (decide (r ≥ 0),d)=_
 rw [e2];rfl
theorem idxI1_loop {N:Nat} {is:List Int} {mp:MB} (hl:is.length <= 4611686018427387904):∀ (m k:Nat),k <= is.length->is.length - k < m ->
  ∃ r:Int,L_slices_IndexFunc_int_int_1_0 N m is ((is.length:Nat):Int) (k:Int) mp=some (r,mp)/\decide (r ≥ 0)=(is.drop k).any (has mp)
 | 0,_,_,h=>absurd h (Nat.not_lt_zero _)
 | m + 1,k,h1,h=>by
  show ∃ r:Int,B_slices_IndexFunc_int_int_1_0 N (L_slices_IndexFunc_int_int_1_0 N m) is _ _ _=_/\_
  unfold B_slices_IndexFunc_int_int_1_0
  by_cases hlt:k < is.length
  ·rw [lt_t hlt,q_if1,q_get (getn hlt),List.drop_eq_getElem_cons hlt,List.any_cons]
   show ∃ r:Int,if? (has mp is[k]) (some ((k:Int),mp)) (ck .i64 ((k:Int) + 1) (L_slices_IndexFunc_int_int_1_0 N m is ((is.length:Nat):Int) ((k:Int) + 1) mp))=some (r,mp)/\_
   cases hb:has mp is[k] with
   | true=>exact ⟨k,rfl,by simp⟩
   | false =>
    obtain ⟨r,e1,e2⟩:=idxI1_loop (N:=N) (mp:=mp) hl m (k + 1) (by omega) (by omega)
    exact ⟨r,by rw [q_if0,q_ck (by omega) (by omega),show ((k:Int) + 1)=((k + 1:Nat):Int) by omega];exact e1,by rw [e2];rfl⟩
  ·exact ⟨-1,by rw [lt_f hlt,q_if0],by rw [List.drop_of_length_le (by omega)];rfl⟩
theorem cfI1_eq {N:Nat} {is:List Int} {mp:MB} (hl:is.length <= 4611686018427387904) (hN:is.length < N):G_slices_ContainsFunc_int_int_1 N is mp=some (is.any (has mp),mp):=by
 unfold G_slices_ContainsFunc_int_int_1 G_slices_IndexFunc_int_int_1
 obtain ⟨r,e1,e2⟩:=idxI1_loop (N:=N) (mp:=mp) hl N 0 (Nat.zero_le _) (by omega)
 have e1:L_slices_IndexFunc_int_int_1_0 N N is ((is.length:Nat):Int) 0 mp=some (r,mp):=e1
 rw [e1]
 show some (decide (r ≥ 0),mp)=_
 rw [e2];rfl
theorem first {N:Nat} {l:List De} {cs:List Ch} {A fT:List Int} {fP ch:Int} (hf:Few N l) (hl:l.length <= 8796093022207) (hc:chk l=0) (hcs:cs.length <= 4611686018427387904) (hN2:cs.length < N):∀ (m k:Nat) (T:List Int) (p:Int) (mv:MB),k <= l.length->l.length - k < m->WInv l cs k T p mv ->
    L_law26_LineageWaves_0 N m l cs ch l ((l.length:Nat):Int) (k:Int) T p A fT fP mv=L_law26_LineageWaves_1 N N l 8 ((A.length:Nat):Int) 0 A fT fP
  | 0,_,_,_,_,_,h,_=>absurd h (Nat.not_lt_zero _)
  | m + 1,k,T,p,mv,h1,h,hI=>by
    have hlen:=hf.len
    have hT:T.length <= l.length:=by rw [hI.tt];exact sel_len
    have hn:=next_eq (N:=N) hf (T:=T) (p:=p) (by omega) (by omega)
    have hnx:=hI.next hc
    show B_law26_LineageWaves_0 N (L_law26_LineageWaves_0 N m) l cs ch l _ _ T p A fT fP mv=_
    unfold B_law26_LineageWaves_0
    by_cases hlt:k < l.length
    · have hm:=List.getElem_mem hlt
      have hd:=hf.rd _ hm
      have ho:=hf.of _ hm
      have h64:((IntKind.bits .u64:Nat):Int)=64:=rfl
      have htm:0 <= Int.tmod (k:Int) 64/\Int.tmod (k:Int) 64 <= 64:=⟨Int.tmod_nonneg _ (by omega),by have:=Int.tmod_lt_of_pos (a:=(k:Int)) (b:=64) (by decide);omega⟩
      rw [lt_t hlt,q_if1,q_get (getn hlt),cfC1_eq (d:=l[k]) hd.2 hd.1 hcs hN2]
      simp only [q_bd]
      rw [cfI1_eq ho.2 ho.1]
      rw [List.drop_eq_getElem_cons hlt,sel_cons] at hnx
      cases hb1:cs.any (tch l[k]) with
      | true =>
        have hdue:due cs mv l[k]=true:=by unfold due;rw [hb1];rfl
        rw [if_pos hdue] at hnx
        have hdn:∀ b,doneF l T p b=if b=true then (Go.Lib.compact (srt (T ++ onIt l[k].1 l)),(l[k].1,0)) else (T,(l[k].1,0)):=fun b=>by unfold doneF;rw [hnx];rfl
        simp only [q_if1,q_gl,q_bd,hn,hnx,beq_self_eq_true,Bool.not_true,q_if0,q_ifn]
        rw [q_gdT htm.1,q_gdT (by rw [h64];exact htm.2)]
        generalize (bits .and .u64 (ch / 2 ^ (Int.tmod (k:Int) 64).toNat) 1 == 1)=b
        have hg:(mGet (mSet mv l[k].1 b) l[k].1).getD false=b:=by
          have:=has_set mv l[k].1 b l[k].1
          rw [if_pos rfl] at this;exact this
        rw [hg,done_eq (N:=N) hf hl (by omega) (by omega),hdn b]
        cases b with
        | true =>
          have hrec:=first (A:=A) (fT:=fT) (fP:=fP) (ch:=ch) hf hl hc hcs hN2 m (k + 1) _ _ _ (by omega) (by omega) (hI.yes hc hlt hdue)
          simp only [if_true,q_bd,bne_self_eq_false,q_if0,q_jr,q_gl]
          rw [q_ck (by omega) (by omega),show ((k:Int) + 1)=((k + 1:Nat):Int) by omega]
          exact hrec
        | false =>
          have hrec:=first (A:=A) (fT:=fT) (fP:=fP) (ch:=ch) hf hl hc hcs hN2 m (k + 1) _ _ _ (by omega) (by omega) (hI.no hc hlt hdue)
          simp only [Bool.false_eq_true,if_false,q_bd,bne_self_eq_false,q_if0,q_jr,q_gl]
          rw [q_ck (by omega) (by omega),show ((k:Int) + 1)=((k + 1:Nat):Int) by omega]
          exact hrec
      | false =>
       cases hb2:l[k].2.2.any (has mv) with
       | true =>
        have hdue:due cs mv l[k]=true:=by unfold due;rw [hb1,hb2];rfl
        rw [if_pos hdue] at hnx
        have hdn:∀ b,doneF l T p b=if b=true then (Go.Lib.compact (srt (T ++ onIt l[k].1 l)),(l[k].1,0)) else (T,(l[k].1,0)):=fun b=>by unfold doneF;rw [hnx];rfl
        simp only [q_if1,q_gl,q_bd,hn,hnx,beq_self_eq_true,Bool.not_true,q_if0,q_ifn]
        rw [q_gdT htm.1,q_gdT (by rw [h64];exact htm.2)]
        generalize (bits .and .u64 (ch / 2 ^ (Int.tmod (k:Int) 64).toNat) 1 == 1)=b
        have hg:(mGet (mSet mv l[k].1 b) l[k].1).getD false=b:=by
          have:=has_set mv l[k].1 b l[k].1
          rw [if_pos rfl] at this;exact this
        rw [hg,done_eq (N:=N) hf hl (by omega) (by omega),hdn b]
        cases b with
        | true =>
          have hrec:=first (A:=A) (fT:=fT) (fP:=fP) (ch:=ch) hf hl hc hcs hN2 m (k + 1) _ _ _ (by omega) (by omega) (hI.yes hc hlt hdue)
          simp only [if_true,q_bd,bne_self_eq_false,q_if0,q_jr,q_gl]
          rw [q_ck (by omega) (by omega),show ((k:Int) + 1)=((k + 1:Nat):Int) by omega]
          exact hrec
        | false =>
          have hrec:=first (A:=A) (fT:=fT) (fP:=fP) (ch:=ch) hf hl hc hcs hN2 m (k + 1) _ _ _ (by omega) (by omega) (hI.no hc hlt hdue)
          simp only [Bool.false_eq_true,if_false,q_bd,bne_self_eq_false,q_if0,q_jr,q_gl]
          rw [q_ck (by omega) (by omega),show ((k:Int) + 1)=((k + 1:Nat):Int) by omega]
          exact hrec
       | false =>
        have hdue:due cs mv l[k]=false:=by unfold due;rw [hb1,hb2];rfl
        rw [if_neg (by rw [hdue];exact Bool.false_ne_true)] at hnx
        have hrec:=first (A:=A) (fT:=fT) (fP:=fP) (ch:=ch) hf hl hc hcs hN2 m (k + 1) _ _ _ (by omega) (by omega) (hI.skip hlt hdue)
        have hq:(nextF l T p).2=0->(nextF l T p).1 ≠ l[k].1:=by
          rw [hnx]
          cases hs:sel (due cs mv) (l.drop (k + 1)) with
          | nil=>intro q;cases q
          | cons x r =>
            intro _ e
            have hx:x ∈ sel (due cs mv) (l.drop (k + 1)):=by rw [hs];exact List.mem_cons_self
            obtain ⟨d,hd',_,e2⟩:=mem_sel.1 hx
            obtain ⟨j,hj,rfl⟩:=List.getElem_of_mem hd'
            rw [List.length_drop] at hj
            rw [List.getElem_drop] at e2
            have:=srt_lt (chk_srt hc) (show k + 1 + j < l.length by omega) (show k < k + 1 + j by omega)
            have e:x=l[k].1:=e
            omega
        generalize nextF l T p=q at hn hq
        simp only [q_if0,q_gl,q_bd,hn]
        by_cases h0:q.2=0
        · rw [show (q.2 == 0)=true by simpa using h0]
          simp only [q_if1,q_bd]
          rw [show (q.1 == l[k].1)=false by simpa using hq h0]
          simp only [beq_self_eq_true,Bool.not_true,q_if0,q_ifn,q_jr,q_gl]
          rw [q_ck (by omega) (by omega),show ((k:Int) + 1)=((k + 1:Nat):Int) by omega]
          exact hrec
        · rw [show (q.2 == 0)=false by simpa using h0]
          simp only [beq_self_eq_true,Bool.not_true,q_if0,q_bd,q_ifn,q_jr,q_gl]
          rw [q_ck (by omega) (by omega),show ((k:Int) + 1)=((k + 1:Nat):Int) by omega]
          exact hrec
    · rw [lt_f hlt,q_if0,hn,hnx,List.drop_of_length_le (by omega)]
      simp only [q_bd,q_gl,sel,ids,List.filter_nil,List.map_nil]
end Go.Proofs.Try

set_option synthInstance.maxSize 100000000
set_option synthInstance.maxHeartbeats 4000000
set_option maxRecDepth 100000
namespace Go.Proofs.Try
open Go.Eng Go.RowKit

def smallD (d:De):Prop:=d.2.2.length <= 20/\d.2.1.length <= 42
theorem few_loop {l:List De} (hl:l.length <= 4611686018427387904):∀ (m k:Nat),k <= l.length->l.length - k < m->∃ b,L_ref26_Few_0 m l (k:Int)=some b/\(b=true->∀ d ∈ l.drop k,smallD d)
 | 0,_,_,h=>absurd h (Nat.not_lt_zero _)
 | m + 1,k,h1,h=>by
  show ∃ b,B_ref26_Few_0 (L_ref26_Few_0 m) l _=some b/\_
  unfold B_ref26_Few_0
  by_cases hlt:k < l.length
  ·have hd:∃ f:Bool,(get? l (k:Int) fun x7=>if? (decide (((x7.2.2.length:Nat):Int) > 20)) (some (l,(k:Int),true)) (get? l (k:Int) fun x8=>if? (decide (((x8.2.1.length:Nat):Int) > 8)) (get? l (k:Int) fun x9=>if? (decide (((x9.2.1.length:Nat):Int) <= 40)) (some (l,(k:Int),true)) (get? l (k:Int) fun x10=>some (l,(k:Int),decide (((x10.2.1.length:Nat):Int) > 42)))) (get? l (k:Int) fun x11=>some (l,(k:Int),decide (((x11.2.1.length:Nat):Int) > 42)))))=some (l,(k:Int),f)/\(f=false->smallD l[k]):=by
    simp only [q_get (getn hlt)]
    by_cases c1:((l[k].2.2.length:Nat):Int) > 20
    ·exact ⟨true,by rw [decide_eq_true c1];rfl,fun e=>by cases e⟩
    ·rw [decide_eq_false c1,q_if0]
     by_cases c2:((l[k].2.1.length:Nat):Int) > 8
     ·rw [decide_eq_true c2,q_if1]
      by_cases c3:((l[k].2.1.length:Nat):Int) <= 40
      ·exact ⟨true,by rw [decide_eq_true c3];rfl,fun e=>by cases e⟩
      ·rw [decide_eq_false c3,q_if0]
       exact ⟨_,rfl,fun e=>⟨by omega,by have:=of_decide_eq_false e;omega⟩⟩
     ·rw [decide_eq_false c2,q_if0]
      exact ⟨_,rfl,fun e=>⟨by omega,by have:=of_decide_eq_false e;omega⟩⟩
   obtain ⟨f,e1,e2⟩:=hd
   rw [lt_t hlt,q_if1,e1]
   simp only [q_bd]
   cases f with
   | true=>exact ⟨false,rfl,fun e=>by cases e⟩
   | false =>
    obtain ⟨b,i1,i2⟩:=few_loop hl m (k + 1) (by omega) (by omega)
    refine ⟨b,by rw [q_if0,q_ck (by omega) (by omega),show ((k:Int) + 1)=((k + 1:Nat):Int) by omega];exact i1,fun hb d hd=>?_⟩
    rw [List.drop_eq_getElem_cons hlt] at hd
    rcases List.mem_cons.1 hd with rfl | hd
    ·exact e2 rfl
    ·exact i2 hb d hd
  ·exact ⟨true,by rw [lt_f hlt,q_if0],fun _ d hd=>by rw [List.drop_of_length_le (by omega)] at hd;cases hd⟩
theorem few_eq {N:Nat} (hN:2010 < N) (l:List De) (most:Int):∃ b,G_ref26_Few N l most=some b/\(b=true->∀ d ∈ l,smallD d):=by
 unfold G_ref26_Few
 have hs:∃ f:Bool,(if? (decide (((l.length:Nat):Int) > most)) (if? (decide (((l.length:Nat):Int) <= 2000)) (some (l,true)) (some (l,decide (((l.length:Nat):Int) > 2010)))) (some (l,decide (((l.length:Nat):Int) > 2010))))=some (l,f)/\(f=false->l.length <= 2010):=by
  by_cases c1:((l.length:Nat):Int) > most
  ·rw [decide_eq_true c1,q_if1]
   by_cases c2:((l.length:Nat):Int) <= 2000
   ·exact ⟨true,by rw [decide_eq_true c2];rfl,fun e=>by cases e⟩
   ·rw [decide_eq_false c2,q_if0]
    exact ⟨_,rfl,fun e=>by have:=of_decide_eq_false e;omega⟩
  ·rw [decide_eq_false c1,q_if0]
   exact ⟨_,rfl,fun e=>by have:=of_decide_eq_false e;omega⟩
 obtain ⟨f,e1,e2⟩:=hs
 rw [e1]
 simp only [q_bd]
 cases f with
 | true=>exact ⟨false,rfl,fun e=>by cases e⟩
 | false =>
  have:=e2 rfl
  obtain ⟨b,i1,i2⟩:=few_loop (l:=l) (by omega) N 0 (Nat.zero_le _) (by omega)
  exact ⟨b,by rw [q_if0];exact i1,fun hb d hd=>i2 hb d (by rw [List.drop_zero];exact hd)⟩
theorem few_of {N:Nat} (hN:2010 < N) {l:List De} (hl:l.length <= 2010) (h:∀ d ∈ l,smallD d):Few N l :=
 ⟨by omega,by omega,fun d hd=>by have:=h d hd;unfold smallD at this;omega,fun d hd=>by have:=h d hd;unfold smallD at this;omega⟩
theorem clo_len:∀ (l:List De) (mp:MB),(clo l mp).length <= l.length
 | [],_=>Nat.le_refl _
 | d :: r,mp=>by
  unfold clo
  split
  ·have:=clo_len r (mSet mp d.1 true);simp;omega
  ·have:=clo_len r mp;simp;omega
theorem sanity_t:G_law26_sanity 3000=some true:=by kernel_rfl
theorem waves_true (l:List De) (cs:List Ch) (ch:Int):G_law26_LineageWaves 3000 l cs ch=some true:=by
 unfold G_law26_LineageWaves
 rw [sanity_t]
 simp only [q_bd,Bool.not_true,q_if0,q_ifn,q_if1]
 obtain ⟨b,hb,hsm⟩:=few_eq (N:=3000) (by omega) l 40
 rw [hb]
 simp only [q_bd]
 cases b with
 | false=>rfl
 | true =>
  rw [q_if1]
  by_cases c1:((l.length:Nat):Int) > 40
  ·rw [decide_eq_true c1];rfl
  ·rw [decide_eq_false c1,q_if0]
   by_cases c2:((cs.length:Nat):Int) > 8
   ·rw [decide_eq_true c2];rfl
   ·rw [decide_eq_false c2,q_if0]
    have hf:Few 3000 l:=few_of (by omega) (by omega) (hsm rfl)
    rw [check_eq hf]
    simp only [q_bd]
    by_cases hc:chk l=0
    ·rw [hc]
     simp only [bne_self_eq_false,q_if0]
     rw [begin_eq hf (by omega) (by omega) (by omega),affected_eq hf (by omega) (by omega) (by omega),if_pos hc,if_pos hc]
     simp only [q_bd,bne_self_eq_false,q_if0,q_gl]
     have h1:=first (N:=3000) (A:=clo l (inM [] (tids cs l))) (fT:=tids cs l) (fP:=0) (ch:=ch) hf (by omega) hc (by omega) (by omega) 3000 0 (tids cs l) 0 [] (Nat.zero_le _) (by omega) (.start hc)
     have h2:=second (N:=3000) hf (by omega) hc (clo_len l _) 3000 0 0 (tids cs l) 0 [] (Nat.zero_le _) (by have:=clo_len l (inM [] (tids cs l));omega) (.start hc)
     exact h1.trans h2
    ·rw [show (chk l != 0)=true by simpa using hc];rfl
end Go.Proofs.Try

