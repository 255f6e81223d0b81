/- Texts of this claim. -/
import Derived.Test.YtkfcmelpadbdcaaGreatDoorLA
import Derived.Test.YtkfcmelpadbdcaaGreatDoorYB
import Derived.Lib.Varint
import Derived.Lib.BitFns
import Derived.Laws.Bits64
set_option linter.all false
set_option linter.unusedSimpArgs false
set_option linter.unusedVariables false
namespace Go.Proofs.Tryz
open Go.Eng
theorem q_ift {α:Type} {c:Bool} {a b:Option α} (h:c=true):if? c a b=a:=by rw [h];rfl
theorem q_iff {α:Type} {c:Bool} {a b:Option α} (h:c=false):if? c a b=b:=by rw [h];rfl
abbrev Vr:=(Int × (Int × (Int × (Int × (Int × (Int × (Int × (List (Int × (Bool × (Str × Str)))))))))))
end Go.Proofs.Tryz

set_option maxRecDepth 8000
set_option linter.all false
set_option synthInstance.maxSize 100000
set_option synthInstance.maxHeartbeats 400000
namespace Go.Proofs.Tryz
open Go.Eng Go.RowKit Go.Lib
theorem q8 (n:Nat):IntKind.wrap .u8 (n:Int)=((n % 256:Nat):Int):=by
 rw [IntKind.wrap_u8];omega
theorem q64 {x:Int} (h:0 <= x) (h':x < 18446744073709551616):IntKind.wrap .u64 x=x:=by rw [IntKind.wrap_u64];omega
def I64 (n:Int):Prop:=-9223372036854775808 <= n/\n <= 9223372036854775807
theorem intsS_get (s:Str) (i:Nat):(intsS s)[i]?=(s[i]?).map fun c=>(c.toNat:Int):=by unfold intsS;rw [List.getElem?_map]
theorem bytesI_ints (s:Str):bytesI (intsS s)=s:=by
 unfold bytesI intsS
 rw [List.map_map]
 conv=>rhs;rw [<- List.map_id s]
 refine List.map_congr_left fun c _=>?_
 show UInt8.ofNat ((c.toNat:Int)).toNat=c
 rw [Int.toNat_natCast];exact UInt8.ofNat_toNat
theorem intsS_app (s t:Str):intsS (s ++ t)=intsS s ++ intsS t:=List.map_append

theorem intsS_take {t:Str} {n:Nat}:intsS (t.take n)=(intsS t).take n:=by unfold intsS;rw [List.map_take]
theorem intsS_drop {t:Str} {n:Nat}:intsS (t.drop n)=(intsS t).drop n:=by unfold intsS;rw [List.map_drop]
theorem wi_s (m:Nat):L_wire_Int_0 (m + 1)=B_wire_Int_0 (L_wire_Int_0 m):=rfl
theorem int_loop:∀ (k z m:Nat) (a:List Int),z < 128 ^ (k + 1)->z < 18446744073709551616->k < m->a.length + k < 1000000 ->
  L_wire_Int_0 m (z:Int) a=some (a ++ intsS (uvarint z))
 | k,z,0,a,_,_,h,_=>by omega
 | k,z,m + 1,a,hz,hz2,hm,hal=>by
  rw [wi_s]
  unfold B_wire_Int_0
  rw [q8]
  by_cases h:128 <= z
  ·obtain ⟨k',rfl⟩:∃ k',k=k' + 1:=⟨k - 1,by cases k with
    | zero=>have:128 ^ (0 + 1)=128:=rfl;omega
    | succ k=>rfl⟩
   have e1:bits .or .u8 ((z % 256:Nat):Int) 128=((z % 128 + 128:Nat):Int):=by
    rw [Go.Lib.u8_or128_any _ (by omega) (by omega)];omega
   have e4:(z:Int) / 2 ^ 7=((z / 128:Nat):Int):=rfl
   rw [e1,e4,q_ift (decide_eq_true (by omega)),q_gl,q_gdT (by simp only [List.length_cons,List.length_nil];omega),q_gl]
   rw [int_loop k' (z / 128) m (a ++ [((z % 128 + 128:Nat):Int)]) (by have:128 ^ (k' + 1 + 1)=128 ^ (k' + 1) * 128:=rfl;omega) (by omega) (by omega) (by simp only [List.length_append,List.length_cons,List.length_nil];omega),uvarint_big h,List.append_assoc]
   refine congrArg (fun l=>some (a ++ l)) ?_
   show _ :: intsS (uvarint (z / 128))=(((z % 128 + 128).toUInt8.toNat:Nat):Int) :: intsS (uvarint (z / 128))
   rw [show (z % 128 + 128).toUInt8.toNat=z % 128 + 128 by
    show (z % 128 + 128) % 256=_;omega]
  ·rw [q_iff (decide_eq_false (by omega)),q_gl,q_gdT (by simp only [List.length_cons,List.length_nil];omega),q_gl,uvarint_small (by omega)]
   refine congrArg (fun l=>some (a ++ l)) ?_
   show [((z % 256:Nat):Int)]=[((z.toUInt8.toNat:Nat):Int)]
   rw [show z.toUInt8.toNat=z % 256 from rfl]
theorem Int_enc (N:Nat) (n:Int) (hN:20 <= N) (hn:I64 n):G_wire_Int N n=some (intsS (uvarint (zigzag n))):=by
 obtain ⟨h1,h2⟩:=hn
 have e1:(2:Int) ^ 63=9223372036854775808:=rfl
 have e2:(2:Int) ^ 1=2:=rfl
 have hz:zigzag n < 18446744073709551616:=by unfold zigzag;split <;> omega
 have key:bits .xor .u64 (IntKind.wrap .u64 ((IntKind.wrap .u64 n) * 2)) (IntKind.wrap .u64 (n / 9223372036854775808))=((zigzag n:Nat):Int):=by
  by_cases h:0 <= n
  ·have hz':zigzag n=(2 * n).toNat:=by unfold zigzag;rw [if_pos h]
   rw [show n / 9223372036854775808=((0:Nat):Int) by omega,q64 (x:=n) h (by omega),q64 (x:=n * 2) (by omega) (by omega),q64 (x:=((0:Nat):Int)) (by omega) (by omega),show n * 2=(((2 * n).toNat:Nat):Int) by omega,Go.bits_xor_u64_nat _ _ (by omega) (by omega),Nat.xor_zero,hz']
  ·have hz':zigzag n=(-2 * n - 1).toNat:=by unfold zigzag;rw [if_neg h]
   have w:∀ x:Int,IntKind.wrap .u64 x=x % 18446744073709551616:=fun x=>IntKind.wrap_u64 x
   obtain ⟨y,hy,hy2⟩:∃ y:Nat,(((n % 18446744073709551616) * 2) % 18446744073709551616:Int)=(y:Int)/\(y:Int)=18446744073709551616 + 2 * n:=⟨(18446744073709551616 + 2 * n).toNat,by omega,by omega⟩
   rw [w,w,w,hy,show n / 9223372036854775808 % 18446744073709551616=((18446744073709551615:Nat):Int) by omega,Go.bits_xor_u64_nat _ _ (by omega) (by omega)]
   have hx:y ^^^ 18446744073709551615=18446744073709551615 - y:=by
    rw [Nat.xor_comm]
    apply Nat.eq_of_testBit_eq
    intro i
    rw [Nat.testBit_xor,show 18446744073709551615 - y=2 ^ 64 - (y + 1) by omega,Nat.testBit_two_pow_sub_succ (by omega),show (18446744073709551615:Nat)=2 ^ 64 - (0 + 1) from rfl,Nat.testBit_two_pow_sub_succ (by omega)]
    by_cases hi:i < 64
    ·simp [hi]
    ·have:y.testBit i=false:=Nat.testBit_lt_two_pow (Nat.lt_of_lt_of_le (show y < 2 ^ 64 by omega) (Nat.pow_le_pow_right (by decide) (by omega)))
     simp [hi,this]
   rw [hx,hz'];omega
 unfold G_wire_Int
 rw [e1,e2,key,int_loop 9 (zigzag n) N [] (by have:128 ^ (9 + 1)=1180591620717411303424:=rfl;omega) hz (by omega) (by simp),List.nil_append]
def unz (z:Nat):Int:=if z % 2=0 then ((z / 2:Nat):Int) else -((z / 2:Nat):Int) - 1
def giN:Nat->Nat->Str->Int × Int × Int
 | _,_,[]=>(0,0,10)
 | k,z,c :: r=>if (k=9/\1 < c.toNat)\/(0 < k/\c.toNat=0) then (0,0,11) else if c.toNat < 128 then (unz (z + c.toNat % 128 * 128 ^ k),((k + 1:Nat):Int),0) else giN (k + 1) (z + c.toNat % 128 * 128 ^ k) r

theorem wraps_u64 (n:Int) (h₀:0 <= n) (h₁:n < 2 ^ 64):IntKind.u64.wrap n=n:=by rw [IntKind.wrap_u64];omega
theorem xor_i64 (x b:Nat) (hx:x < 9223372036854775808) (hb:b < 2):bits .xor .i64 (x:Int) (-(b:Int))=if b=0 then (x:Int) else -(x:Int) - 1:=by
 obtain rfl | rfl:b=0\/b=1:=by omega
 ·simp only [bits,if_pos]
  rw [show (-((0:Nat):Int))=((0:Nat):Int) from rfl,BitVec.ofInt_natCast,BitVec.ofInt_natCast,BitVec.toNat_xor,BitVec.toNat_ofNat,BitVec.toNat_ofNat]
  rw [show (0 % 2 ^ IntKind.i64.bits)=0 from rfl,Nat.xor_zero,IntKind.wrap_i64,show IntKind.i64.bits=64 from rfl]
  omega
 ·rw [if_neg (by decide)]
  simp only [bits]
  have hone:BitVec.ofInt IntKind.i64.bits (-((1:Nat):Int))=BitVec.allOnes IntKind.i64.bits:=by decide
  rw [hone,BitVec.ofInt_natCast,BitVec.xor_allOnes,BitVec.toNat_not,BitVec.toNat_ofNat,IntKind.wrap_i64,show IntKind.i64.bits=64 from rfl]
  omega
theorem zz_eq (z k c:Nat) (hz:z < 128 ^ k) (hk:k <= 9) (hc:c < 256) (h9:k=9->c <= 1) :
  bits .or .u64 (z:Int) (IntKind.wrap .u64 ((IntKind.wrap .u64 ((bits .and .u8 (c:Int) 127))) * 2 ^ (7 * (k:Int)).toNat))=((z + c % 128 * 128 ^ k:Nat):Int)/\z + c % 128 * 128 ^ k < 18446744073709551616/\(k < 9->z + c % 128 * 128 ^ k < 128 ^ (k + 1)):=by
 have p9:128 ^ k <= 9223372036854775808:=Nat.le_trans (Nat.pow_le_pow_right (by decide) hk) (by decide)
 have hm:c % 128 < 128:=Nat.mod_lt _ (by decide)
 have hb:z + c % 128 * 128 ^ k < 18446744073709551616/\(k < 9->z + c % 128 * 128 ^ k < 128 ^ (k + 1)):=by
  have e:128 ^ (k + 1)=128 ^ k * 128:=rfl
  have h1:c % 128 * 128 ^ k <= 127 * 128 ^ k:=Nat.mul_le_mul_right _ (by omega)
  refine ⟨?_,fun _=>by omega⟩
  by_cases h:k=9
  ·subst h
   have h2:c % 128 * 128 ^ 9 <= 1 * 128 ^ 9:=Nat.mul_le_mul_right _ (by have:=h9 rfl;omega)
   omega
  ·have p8:128 ^ k <= 72057594037927936:=Nat.le_trans (Nat.pow_le_pow_right (by decide) (show k <= 8 by omega)) (by decide)
   omega
 refine ⟨?_,hb⟩
 have e1:bits .and .u8 (c:Int) 127=((c % 128:Nat):Int):=by
  have:=bits_mask .u8 8 (by decide) wraps_u8 7 (by decide) (c:Int) (by omega) (by omega)
  rw [show ((2:Int) ^ 7 - 1)=127 from rfl] at this
  rw [this];omega
 have e2:(2:Int) ^ (7 * (k:Int)).toNat=((128 ^ k:Nat):Int):=by
  rw [show (7 * (k:Int)).toNat=7 * k by omega,Int.pow_mul]
  simp
 have hx:c % 128 * 128 ^ k < 18446744073709551616:=by omega
 rw [e1,q64 (x:=((c % 128:Nat):Int)) (by omega) (by omega),e2,<- Int.natCast_mul,q64 (x:=((c % 128 * 128 ^ k:Nat):Int)) (by omega) (by omega),(bits_nat .u64 64 (by decide) wraps_u64 _ _ (by omega) (by omega)).2]
 congr 1
 have e3:128 ^ k=2 ^ (7 * k):=by rw [Nat.pow_mul]
 rw [e3] at hz |-
 have:=Nat.shiftLeft_add_eq_or_of_lt hz (c % 128)
 rw [Nat.shiftLeft_eq] at this
 rw [Nat.or_comm,<- this,Nat.add_comm]
def giL:Nat->Nat->Str->(Int × (Int × Int)) ⊕ (Int × Int)
 | _,z,[]=>.inr ((z:Int),0)
 | k,z,c :: r=>if (k=9/\1 < c.toNat)\/(0 < k/\c.toNat=0) then .inl (0,(0,11)) else if c.toNat < 128 then .inr (((z + c.toNat % 128 * 128 ^ k:Nat):Int),((k + 1:Nat):Int)) else giL (k + 1) (z + c.toNat % 128 * 128 ^ k) r
def giT:(Int × (Int × Int)) ⊕ (Int × Int)->Int × Int × Int
 | .inl r=>r
 | .inr v=>if v.2=0 then (0,0,10) else (unz v.1.toNat,v.2,0)
theorem giT_L:∀ (r:Str) (k z:Nat),giT (giL k z r)=giN k z r
 | [],k,z=>rfl
 | c :: r,k,z=>by
  rw [giL,giN]
  by_cases h:(k=9/\1 < c.toNat)\/(0 < k/\c.toNat=0)
  ·rw [if_pos h,if_pos h];rfl
  ·rw [if_neg h,if_neg h]
   by_cases h2:c.toNat < 128
   ·rw [if_pos h2,if_pos h2]
    unfold giT
    dsimp only
    rw [if_neg (by omega),Int.toNat_natCast]
   ·rw [if_neg h2,if_neg h2];exact giT_L r _ _
theorem giL_b:∀ (r:Str) (k z:Nat) (v:Int × Int),k <= 9->z < 128 ^ k->giL k z r=.inr v->∃ y:Nat,v.1=(y:Int)/\y < 18446744073709551616/\∃ u:Nat,v.2=(u:Int)
 | [],k,z,v,hk,hz,h=>by
  cases h
  have p9:128 ^ k <= 9223372036854775808:=Nat.le_trans (Nat.pow_le_pow_right (by decide) hk) (by decide)
  exact ⟨z,rfl,by omega,0,rfl⟩
 | c :: r,k,z,v,hk,hz,h=>by
  rw [giL] at h
  have hcl:=c.toNat_lt
  by_cases hb:(k=9/\1 < c.toNat)\/(0 < k/\c.toNat=0)
  ·rw [if_pos hb] at h;cases h
  ·rw [if_neg hb] at h
   obtain ⟨_,h2,h3⟩:=zz_eq z k c.toNat hz hk (by omega) (by omega)
   by_cases hh:c.toNat < 128
   ·rw [if_pos hh] at h;cases h
    exact ⟨_,rfl,h2,k + 1,rfl⟩
   ·rw [if_neg hh] at h
    exact giL_b r (k + 1) _ v (by omega) (h3 (by omega)) h
theorem gi_s (m:Nat):L_wire_GetInt_0 (m + 1)=B_wire_GetInt_0 (L_wire_GetInt_0 m):=rfl
theorem gi_loop (s:Str):∀ (r:Str) (k z m:Nat),s.drop k=r->k <= 9->z < 128 ^ k->10 < m + k->L_wire_GetInt_0 m (z:Int) 0 (intsS s) (((intsS s).length:Nat):Int) (k:Int)=some (giL k z r)
 | r,k,z,0,_,_,_,h=>by omega
 | [],k,z,m + 1,hr,hk,hz,hm=>by
  have:s.length <= k:=by
   have:=congrArg List.length hr
   rw [List.length_drop,List.length_nil] at this;omega
  rw [gi_s]
  unfold B_wire_GetInt_0
  rw [intsS_len,q_iff (decide_eq_false (by omega))];rfl
 | c :: r,k,z,m + 1,hr,hk,hz,hm=>by
  have hlen:k < s.length:=by
   have:=congrArg List.length hr
   rw [List.length_drop,List.length_cons] at this;omega
  have hc:s[k]=c:=by
   have:=congrArg (·[0]?) hr
   simp only [List.getElem?_drop,Nat.add_zero,List.getElem?_cons_zero] at this
   rw [List.getElem?_eq_getElem hlen] at this
   exact Option.some.inj this
  have hr':s.drop (k + 1)=r:=by
   have:=congrArg List.tail hr
   rw [List.tail_drop] at this;exact this
  have hcl:=c.toNat_lt
  have hget:(intsS s)[k]?=some (c.toNat:Int):=by rw [intsS_get,List.getElem?_eq_getElem hlen,hc];rfl
  have rec_:=fun z' h1 h2 h3=>gi_loop s r (k + 1) z' m hr' h1 h2 h3
  rw [gi_s,giL]
  unfold B_wire_GetInt_0
  rw [intsS_len] at rec_ |-
  rw [q_ift (decide_eq_true (by omega)),q_get hget]
  generalize hcn:c.toNat=d at *
  by_cases hbad:(k=9/\1 < d)\/(0 < k/\d=0)
  ·rw [if_pos hbad]
   by_cases h9:k=9
   ·subst h9
    rw [show (((9:Nat):Int) == 9)=true from rfl,q_if1,q_bd]
    dsimp only
    by_cases h1:1 < d
    ·rw [q_ift (decide_eq_true (by omega)),q_bd];rfl
    ·have h0:d=0:=by omega
     subst h0
     rfl
   ·have hd:0 < k/\d=0:=by omega
    rw [show ((k:Int) == 9)=false by rw [beq_eq_false_iff_ne];omega,q_if0,q_bd]
    dsimp only
    rw [q_if0,q_ift (decide_eq_true (by omega)),q_bd]
    dsimp only
    rw [show ((d:Int) == 0)=true by rw [beq_iff_eq];omega,q_if1]
    rfl
  ·rw [if_neg hbad]
   obtain ⟨e1,e2,e3⟩:=zz_eq z k d hz hk (by omega) (by omega)
   have fin:∀ x:Bool,x=false->(bd? (some ((z:Int),(0:Int),(k:Int),(d:Int),intsS s,(s.length:Int),(k:Int),x)) fun w10=>if? (w10.2.2.2.2.2.2.2) (inl? (some ((0,(0,11))))) (ck .i64 ((7 * w10.2.2.1)) (gd? ((0 <= (7 * w10.2.2.1))) (gd? (((7 * w10.2.2.1) <= (((IntKind.bits .u64):Nat):Int))) (if? (decide (w10.2.2.2.1 < 128)) (ck .i64 ((w10.2.2.1 + 1)) (some (.inr ((bits .or .u64 w10.1 (IntKind.wrap .u64 ((IntKind.wrap .u64 (bits .and .u8 w10.2.2.2.1 127)) * (2 ^ (7 * w10.2.2.1).toNat)))),(w10.2.2.1 + 1))))) (ck .i64 ((w10.2.2.2.2.2.2.1 + 1)) (L_wire_GetInt_0 m (bits .or .u64 w10.1 (IntKind.wrap .u64 ((IntKind.wrap .u64 (bits .and .u8 w10.2.2.2.1 127)) * (2 ^ (7 * w10.2.2.1).toNat)))) w10.2.1 w10.2.2.2.2.1 w10.2.2.2.2.2.1 (w10.2.2.2.2.2.2.1 + 1))))))))=some (if d < 128 then .inr (((z + d % 128 * 128 ^ k:Nat):Int),((k + 1:Nat):Int)) else giL (k + 1) (z + d % 128 * 128 ^ k) r):=by
    intro x hx
    subst hx
    rw [q_bd]
    dsimp only
    rw [q_if0,q_ck (by omega) (by omega),q_gdT (by omega),q_gdT (by show _ <= ((64:Nat):Int);omega),e1]
    by_cases hh:d < 128
    ·rw [q_ift (decide_eq_true (by omega)),q_ck (by omega) (by omega),if_pos hh,show (k:Int) + 1=((k + 1:Nat):Int) by omega]
    ·rw [q_iff (decide_eq_false (by omega)),q_ck (by omega) (by omega),if_neg hh,show (k:Int) + 1=((k + 1:Nat):Int) by omega]
     exact rec_ _ (by omega) (e3 (by omega)) (by omega)
   by_cases h9:k=9
   ·rw [show ((k:Int) == 9)=true by rw [beq_iff_eq];omega,q_if1,q_bd]
    dsimp only
    rw [q_iff (decide_eq_false (by omega)),q_ift (decide_eq_true (by omega))]
    exact fin _ (by rw [beq_eq_false_iff_ne];omega)
   ·rw [show ((k:Int) == 9)=false by rw [beq_eq_false_iff_ne];omega,q_if0,q_bd]
    dsimp only
    rw [q_if0]
    by_cases h0:0 < k
    ·rw [q_ift (decide_eq_true (by omega))]
     exact fin _ (by rw [beq_eq_false_iff_ne];omega)
    ·rw [q_iff (decide_eq_false (by omega))]
     exact fin _ rfl
def gi (s:Str):Int × Int × Int:=giN 0 0 s
theorem GetInt_eq {N:Nat} (hN:11 <= N) (s:Str):G_wire_GetInt N (intsS s)=some (gi s):=by
 unfold G_wire_GetInt
 have h:=gi_loop s s 0 0 N rfl (by omega) (by decide) (by omega)
 rw [show (((0:Nat):Int))=0 from rfl] at h
 rw [h]
 unfold gi
 rw [<- giT_L]
 cases e:giL 0 0 s with
 | inl r=>rfl
 | inr v =>
  obtain ⟨y,h1,h2,u,h3⟩:=giL_b s 0 0 v (by omega) (by decide) e
  obtain ⟨a,b⟩:=v
  dsimp only at h1 h3
  subst h1 h3
  rw [q_jr]
  dsimp only [giT]
  by_cases hu:u=0
  ·subst hu
   rfl
  ·have e5:bits .and .u64 (y:Int) 1=((y % 2:Nat):Int):=by
    have:=bits_mask .u64 64 (by decide) wraps_u64 1 (by decide) (y:Int) (by omega) (by omega)
    rw [show ((2:Int) ^ 1 - 1)=1 from rfl] at this
    rw [this];omega
   have e4:(y:Int) / 2 ^ 1=((y / 2:Nat):Int):=rfl
   rw [q_iff (by rw [beq_eq_false_iff_ne];omega),e5,e4,q_wrap (n:=((y % 2:Nat):Int)) (by omega) (by omega),q_wrap (n:=((y / 2:Nat):Int)) (by omega) (by omega),q_ck (by omega) (by omega),xor_i64 _ _ (by omega) (by omega),if_neg (show ¬ ((u:Int)=0) by omega),Int.toNat_natCast]
   rfl
end Go.Proofs.Tryz

set_option maxRecDepth 8000
set_option linter.all false
set_option synthInstance.maxSize 100000
set_option synthInstance.maxHeartbeats 400000
namespace Go.Proofs.Tryz
open Go.Eng Go.RowKit Go.Lib
theorem unz_I64 {z:Nat} (h:z < 18446744073709551616):I64 (unz z):=by
 unfold unz I64;split <;> omega
theorem giN_ok:∀ (s:Str) (k z:Nat),k <= 9->z < 128 ^ k->(((giN k z s).2.2=0/\∃ u:Nat,(giN k z s).2.1=(u:Int)/\k + 1 <= u/\u <= k + s.length/\u <= 10/\I64 (giN k z s).1)\/((giN k z s).1=0/\(giN k z s).2.1=0/\((giN k z s).2.2=10\/(giN k z s).2.2=11)))
 | [],k,z,_,_=>.inr ⟨rfl,rfl,.inl rfl⟩
 | c :: s,k,z,hk,hz=>by
  rw [giN]
  by_cases hb:(k=9/\1 < c.toNat)\/(0 < k/\c.toNat=0)
  ·rw [if_pos hb];exact .inr ⟨rfl,rfl,.inr rfl⟩
  ·rw [if_neg hb]
   have hcl:=c.toNat_lt
   obtain ⟨_,h2,h3⟩:=zz_eq z k c.toNat hz hk (by omega) (by omega)
   by_cases hh:c.toNat < 128
   ·rw [if_pos hh]
    exact .inl ⟨rfl,k + 1,rfl,by omega,by simp only [List.length_cons];omega,by omega,unz_I64 h2⟩
   ·rw [if_neg hh]
    have hk9:k < 9:=by omega
    rcases giN_ok s (k + 1) _ (by omega) (h3 hk9) with ⟨e,u,h1,h2,h3,h4,h5⟩ | h
    ·exact .inl ⟨e,u,h1,by omega,by simp only [List.length_cons];omega,h4,h5⟩
    ·exact .inr h
theorem gi_ok (s:Str):((gi s).2.2=0/\∃ u:Nat,(gi s).2.1=(u:Int)/\1 <= u/\u <= s.length/\u <= 10/\I64 (gi s).1)\/((gi s).1=0/\(gi s).2.1=0/\((gi s).2.2=10\/(gi s).2.2=11)):=by
 rcases giN_ok s 0 0 (by omega) (by decide) with ⟨e,u,h1,h2,h3,h4,h5⟩ | h
 ·exact .inl ⟨e,u,h1,by omega,by omega,h4,h5⟩
 ·exact .inr h

def lenW (s:Str):Int × Int × Int :=
 if (gi s).2.2 ≠ 0 then (0,0,(gi s).2.2) else if (gi s).1 < 0 then (0,0,11) else if (gi s).1 > (s.length:Int) - (gi s).2.1 then (0,0,10) else ((gi s).1,(gi s).2.1,0)
theorem ne_f {a b:Int} (h:a=b):(a != b)=false:=by rw [bne_eq_false_iff_eq];exact h
theorem ne_t {a b:Int} (h:a ≠ b):(a != b)=true:=by rw [bne_iff_ne];exact h
theorem length_eq {N:Nat} (hN:11 <= N) (s:Str) (hs:s.length <= 1000000):G_wire_length N (intsS s) 1=some (lenW s):=by
 unfold G_wire_length lenW
 rw [GetInt_eq hN,q_bd,intsS_len]
 rcases gi_ok s with ⟨e,u,h1,h2,h3,h4,h5⟩ | ⟨h1,h2,h3⟩
 ·obtain ⟨b1,b2⟩:=h5
  rw [ne_f e,q_if0,if_neg (by rw [e];simp),h1,Int.tdiv_one]
  by_cases hn:(gi s).1 < 0
  ·rw [q_ift (decide_eq_true hn),if_pos hn]
  ·rw [q_iff (decide_eq_false hn),if_neg hn,q_ck (by omega) (by omega),q_gdT (by decide),q_ck (by omega) (by omega)]
   by_cases hg:(gi s).1 > (s.length:Int) - (u:Int)
   ·rw [q_ift (decide_eq_true hg),if_pos hg]
   ·rw [q_iff (decide_eq_false hg),if_neg hg]
 ·have hne:(gi s).2.2 ≠ 0:=by omega
  rw [ne_t hne,q_if1,if_pos hne]
theorem lenW_ok (s:Str):((lenW s).2.2=0/\∃ n u:Nat,lenW s=((n:Int),(u:Int),0)/\1 <= u/\n + u <= s.length)\/((lenW s).1=0/\(lenW s).2.1=0/\((lenW s).2.2=10\/(lenW s).2.2=11)):=by
 unfold lenW
 rcases gi_ok s with ⟨e,u,h1,h2,h3,h4,h5⟩ | ⟨h1,h2,h3⟩
 ·rw [if_neg (by rw [e];simp)]
  by_cases hn:(gi s).1 < 0
  ·rw [if_pos hn];exact .inr ⟨rfl,rfl,.inr rfl⟩
  ·rw [if_neg hn]
   by_cases hg:(gi s).1 > (s.length:Int) - (gi s).2.1
   ·rw [if_pos hg];exact .inr ⟨rfl,rfl,.inl rfl⟩
   ·rw [if_neg hg]
    refine .inl ⟨rfl,(gi s).1.toNat,u,?_,h2,by omega⟩
    rw [h1,Int.toNat_of_nonneg (by omega)]
 ·rw [if_pos (by omega)]
  exact .inr ⟨rfl,rfl,h3⟩

def getsI:Nat->Str->Int->List Int->List Int × Int × Int
 | 0,_,a,acc=>(acc,a,0)
 | n + 1,r,a,acc=>if (gi r).2.2 ≠ 0 then ([],0,(gi r).2.2) else getsI n (r.drop (gi r).2.1.toNat) (a + (gi r).2.1) (acc ++ [(gi r).1])
theorem ints_tail (s:Str) (a:Nat):((intsS s).drop a).take ((intsS s).length - a)=intsS (s.drop a):=by
 rw [intsS_drop,List.take_of_length_le (by rw [List.length_drop];exact Nat.le_refl _)]
theorem gts_s (N m:Nat):L_wire_get_int_0 N (m + 1)=B_wire_get_int_0 N (L_wire_get_int_0 N m):=rfl
def swp {α:Type} (v:α × Int × Int):Int × (Int × α):=(v.2.1,(v.2.2,v.1))
theorem getsI_loop {N:Nat} (hN:11 <= N) (s:Str) (v:Nat) (hs:s.length <= 1000000):∀ (n a b m:Nat) (acc:List Int),v=b + n->a <= s.length->b + n <= 1000000->acc.length=b->n < m ->
  L_wire_get_int_0 N m (intsS s) (a:Int) (v:Int) (b:Int) acc=some (swp (getsI n (s.drop a) (a:Int) acc))
 | n,a,b,0,acc,_,_,_,_,h=>by omega
 | 0,a,b,m + 1,acc,hv,ha,hb,hacc,_=>by
  rw [gts_s]
  unfold B_wire_get_int_0
  rw [q_iff (decide_eq_false (by omega)),q_gl];rfl
 | n + 1,a,b,m + 1,acc,hv,ha,hb,hacc,hm=>by
  rw [gts_s]
  unfold B_wire_get_int_0
  rw [q_ift (decide_eq_true (by omega)),q_gdT (by omega),Int.toNat_natCast,q_gdT (by rw [intsS_len];exact ha),q_gdT (Nat.le_refl _),ints_tail,GetInt_eq hN,q_bd,getsI]
  rcases gi_ok (s.drop a) with ⟨e,u,h1,h2,h3,h4,h5⟩ | ⟨h1,h2,h3⟩
  ·rw [List.length_drop] at h3
   rw [ne_f e,q_if0,if_neg (by rw [e];simp),q_gl,q_gdT (by simp only [List.length_cons,List.length_nil];omega),h1,q_ck (by omega) (by omega),q_ck (by omega) (by omega),q_gl,show ((a:Int) + (u:Int))=((a + u:Nat):Int) by omega,show ((b:Int) + 1)=((b + 1:Nat):Int) by omega,
    getsI_loop hN s v hs n (a + u) (b + 1) m _ (by omega) (by omega) (by omega) (by simp [hacc]) (by omega),Int.toNat_natCast,List.drop_drop]
  ·have hne:(gi (s.drop a)).2.2 ≠ 0:=by omega
   rw [ne_t hne,q_if1,if_pos hne];rfl
def gints (s:Str):List Int × Int × Int:=if (lenW s).2.2 ≠ 0 then ([],0,(lenW s).2.2) else getsI (lenW s).1.toNat (s.drop (lenW s).2.1.toNat) (lenW s).2.1 []
theorem GetIntS_eq {N:Nat} (s:Str) (hN:11 <= N) (hs:s.length < N) (hb:s.length <= 1000000):G_wire_GetInts N (intsS s)=some (swp (gints s)):=by
 unfold G_wire_GetInts G_wire_get_int gints
 rw [length_eq hN s hb,q_bd]
 rcases lenW_ok s with ⟨e,n,u,h1,h2,h3⟩ | ⟨h1,h2,h3⟩
 ·rw [ne_f e,q_if0,if_neg (by rw [e];simp)]
  have e1:(lenW s).1=(n:Int):=by rw [h1]
  have e2:(lenW s).2.1=(u:Int):=by rw [h1]
  rw [e2,e1]
  have:=getsI_loop hN s n hb n u 0 N [] (by omega) (by omega) (by omega) rfl (by omega)
  rw [show (((0:Nat):Int))=0 from rfl] at this
  rw [this,q_bd,Int.toNat_natCast,Int.toNat_natCast,q_gl]
  try rfl
 ·have hne:(lenW s).2.2 ≠ 0:=by omega
  rw [ne_t hne,q_if1,if_pos hne,q_bd,q_gl]
  try rfl
def gbytes (s:Str):Str × Int × Int:=if (lenW s).2.2 ≠ 0 then ([],0,(lenW s).2.2) else ((s.drop (lenW s).2.1.toNat).take (lenW s).1.toNat,(lenW s).2.1 + (lenW s).1,0)
theorem GetBytes_eq {N:Nat} (s:Str) (hN:11 <= N) (hb:s.length <= 1000000):G_wire_GetBytes N (intsS s)=some (gbytes s):=by
 unfold G_wire_GetBytes gbytes
 rw [length_eq hN s hb,q_bd]
 rcases lenW_ok s with ⟨e,n,u,h1,h2,h3⟩ | ⟨h1,h2,h3⟩
 ·rw [ne_f e,q_if0,if_neg (by rw [e];simp)]
  have e1:(lenW s).1=(n:Int):=by rw [h1]
  have e2:(lenW s).2.1=(u:Int):=by rw [h1]
  rw [e1,e2,q_ck (by omega) (by omega),q_gdT (by omega),q_gdT (by omega),q_gdT (by omega),q_gdT (by rw [intsS_len];omega),q_ck (by omega) (by omega),Int.toNat_natCast,Int.toNat_natCast,show ((u:Int) + (n:Int)).toNat - u=n by omega,<- intsS_drop,<- intsS_take,bytesI_ints]
 ·have hne:(lenW s).2.2 ≠ 0:=by omega
  rw [ne_t hne,q_if1,if_pos hne]
theorem gbytes_ok (s:Str):((gbytes s).2.2=0/\∃ u:Nat,(gbytes s).2.1=(u:Int)/\1 <= u/\u <= s.length/\(gbytes s).1.length <= s.length)\/((gbytes s).1=[]/\(gbytes s).2.1=0/\((gbytes s).2.2=10\/(gbytes s).2.2=11)):=by
 unfold gbytes
 rcases lenW_ok s with ⟨e,n,u,h1,h2,h3⟩ | ⟨h1,h2,h3⟩
 ·rw [if_neg (by rw [e];simp)]
  refine .inl ⟨rfl,u + n,by rw [h1];rfl,by omega,by omega,?_⟩
  show ((s.drop _).take _).length <= _
  rw [List.length_take,List.length_drop];omega
 ·rw [if_pos (by omega)]
  exact .inr ⟨rfl,rfl,h3⟩
def getsS:Nat->Str->Int->List Str->List Str × Int × Int
 | 0,_,a,acc=>(acc,a,0)
 | n + 1,r,a,acc=>if (gbytes r).2.2 ≠ 0 then ([],0,(gbytes r).2.2) else getsS n (r.drop (gbytes r).2.1.toNat) (a + (gbytes r).2.1) (acc ++ [(gbytes r).1])
theorem gst_s (N m:Nat):L_wire_get_string_0 N (m + 1)=B_wire_get_string_0 N (L_wire_get_string_0 N m):=rfl
theorem getsS_loop {N:Nat} (hN:11 <= N) (s:Str) (v:Nat) (hs:s.length <= 1000000):∀ (n a b m:Nat) (acc:List Str),v=b + n->a <= s.length->b + n <= 1000000->acc.length=b->n < m ->
  L_wire_get_string_0 N m (intsS s) (a:Int) (v:Int) (b:Int) acc=some (swp (getsS n (s.drop a) (a:Int) acc))
 | n,a,b,0,acc,_,_,_,_,h=>by omega
 | 0,a,b,m + 1,acc,hv,ha,hb,hacc,_=>by
  rw [gst_s]
  unfold B_wire_get_string_0
  rw [q_iff (decide_eq_false (by omega)),q_gl];rfl
 | n + 1,a,b,m + 1,acc,hv,ha,hb,hacc,hm=>by
  rw [gst_s]
  unfold B_wire_get_string_0
  rw [q_ift (decide_eq_true (by omega)),q_gdT (by omega),Int.toNat_natCast,q_gdT (by rw [intsS_len];exact ha),q_gdT (Nat.le_refl _),ints_tail,GetBytes_eq _ hN (by rw [List.length_drop];omega),q_bd,getsS]
  rcases gbytes_ok (s.drop a) with ⟨e,u,h1,h2,h3,h4⟩ | ⟨h1,h2,h3⟩
  ·rw [List.length_drop] at h3
   rw [ne_f e,q_if0,if_neg (by rw [e];simp),q_gl,q_gdT (by simp only [List.length_cons,List.length_nil];omega),h1,q_ck (by omega) (by omega),q_ck (by omega) (by omega),q_gl,show ((a:Int) + (u:Int))=((a + u:Nat):Int) by omega,show ((b:Int) + 1)=((b + 1:Nat):Int) by omega,
    getsS_loop hN s v hs n (a + u) (b + 1) m _ (by omega) (by omega) (by omega) (by simp [hacc]) (by omega),Int.toNat_natCast,List.drop_drop]
  ·have hne:(gbytes (s.drop a)).2.2 ≠ 0:=by omega
   rw [ne_t hne,q_if1,if_pos hne];rfl
def gstrs (s:Str):List Str × Int × Int:=if (lenW s).2.2 ≠ 0 then ([],0,(lenW s).2.2) else getsS (lenW s).1.toNat (s.drop (lenW s).2.1.toNat) (lenW s).2.1 []
theorem GetStringS_eq {N:Nat} (s:Str) (hN:11 <= N) (hs:s.length < N) (hb:s.length <= 1000000):G_wire_GetStrings N (intsS s)=some (swp (gstrs s)):=by
 unfold G_wire_GetStrings G_wire_get_string gstrs
 rw [length_eq hN s hb,q_bd]
 rcases lenW_ok s with ⟨e,n,u,h1,h2,h3⟩ | ⟨h1,h2,h3⟩
 ·rw [ne_f e,q_if0,if_neg (by rw [e];simp)]
  have e1:(lenW s).1=(n:Int):=by rw [h1]
  have e2:(lenW s).2.1=(u:Int):=by rw [h1]
  rw [e2,e1]
  have:=getsS_loop hN s n hb n u 0 N [] (by omega) (by omega) (by omega) rfl (by omega)
  rw [show (((0:Nat):Int))=0 from rfl] at this
  rw [this,q_bd,Int.toNat_natCast,Int.toNat_natCast,q_gl]
  try rfl
 ·have hne:(lenW s).2.2 ≠ 0:=by omega
  rw [ne_t hne,q_if1,if_pos hne,q_bd,q_gl]
  try rfl
end Go.Proofs.Tryz

set_option maxRecDepth 8000
set_option linter.all false
set_option synthInstance.maxSize 100000
set_option synthInstance.maxHeartbeats 400000
namespace Go.Proofs.Tryz
open Go.Eng Go.RowKit Go.Lib
theorem eq_t {a b:Int} (h:a=b):(a == b)=true:=by rw [beq_iff_eq];exact h
theorem eq_f {a b:Int} (h:a ≠ b):(a == b)=false:=by rw [beq_eq_false_iff_ne];exact h

theorem getsI_ok:∀ (n:Nat) (r:Str) (a:Nat) (acc:List Int),(∀ x ∈ acc,I64 x)->((getsI n r (a:Int) acc).2.2=0/\∃ u:Nat,(getsI n r (a:Int) acc).2.1=(u:Int)/\a <= u/\u <= a + r.length/\(getsI n r (a:Int) acc).1.length=acc.length + n/\∀ x ∈ (getsI n r (a:Int) acc).1,I64 x)\/((getsI n r (a:Int) acc).2.2 ≠ 0)
 | 0,r,a,acc,h=>.inl ⟨rfl,a,rfl,by omega,by omega,rfl,h⟩
 | n + 1,r,a,acc,h=>by
  rw [getsI]
  rcases gi_ok r with ⟨e,u,h1,h2,h3,h4,h5⟩ | ⟨h1,h2,h3⟩
  ·rw [if_neg (by rw [e];simp),h1,show ((a:Int) + (u:Int))=((a + u:Nat):Int) by omega,Int.toNat_natCast]
   rcases getsI_ok n (r.drop u) (a + u) (acc ++ [(gi r).1]) (fun x hx=>by
    rcases List.mem_append.1 hx with hx | hx
    ·exact h x hx
    ·rw [List.mem_singleton.1 hx];exact h5) with ⟨e',u',g1,g2,g3,g4,g5⟩ | g
   ·rw [List.length_drop] at g3
    exact .inl ⟨e',u',g1,by omega,by omega,by rw [g4];simp;omega,g5⟩
   ·exact .inr g
  ·have hne:(gi r).2.2 ≠ 0:=by omega
   rw [if_pos hne];exact .inr hne
theorem gints_ok (s:Str):((gints s).2.2=0/\∃ u:Nat,(gints s).2.1=(u:Int)/\u <= s.length/\(gints s).1.length <= s.length/\∀ x ∈ (gints s).1,I64 x)\/((gints s).2.2 ≠ 0):=by
 unfold gints
 rcases lenW_ok s with ⟨e,n,u,h1,h2,h3⟩ | ⟨h1,h2,h3⟩
 ·rw [if_neg (by rw [e];simp)]
  have e1:(lenW s).1=(n:Int):=by rw [h1]
  have e2:(lenW s).2.1=(u:Int):=by rw [h1]
  rw [e1,e2,Int.toNat_natCast,Int.toNat_natCast]
  rcases getsI_ok n (s.drop u) u [] (fun x hx=>by cases hx) with ⟨e',u',g1,g2,g3,g4,g5⟩ | g
  ·rw [List.length_drop] at g3
   exact .inl ⟨e',u',g1,by omega,by rw [g4];simp;omega,g5⟩
  ·exact .inr g
 ·have hne:(lenW s).2.2 ≠ 0:=by omega
  rw [if_pos hne];exact .inr hne
theorem getsS_ok:∀ (n:Nat) (r:Str) (a:Nat) (acc:List Str),((getsS n r (a:Int) acc).2.2=0/\∃ u:Nat,(getsS n r (a:Int) acc).2.1=(u:Int)/\a <= u/\u <= a + r.length/\(getsS n r (a:Int) acc).1.length=acc.length + n/\∀ b:Nat,r.length <= b->(∀ x ∈ acc,x.length <= b)->∀ x ∈ (getsS n r (a:Int) acc).1,x.length <= b)\/((getsS n r (a:Int) acc).2.2 ≠ 0)
 | 0,r,a,acc=>.inl ⟨rfl,a,rfl,by omega,by omega,rfl,fun _ _ h=>h⟩
 | n + 1,r,a,acc=>by
  rw [getsS]
  rcases gbytes_ok r with ⟨e,u,h1,h2,h3,h4⟩ | ⟨h1,h2,h3⟩
  ·rw [if_neg (by rw [e];simp),h1,show ((a:Int) + (u:Int))=((a + u:Nat):Int) by omega,Int.toNat_natCast]
   rcases getsS_ok n (r.drop u) (a + u) (acc ++ [(gbytes r).1]) with ⟨e',u',g1,g2,g3,g4,g5⟩ | g
   ·rw [List.length_drop] at g3
    refine .inl ⟨e',u',g1,by omega,by omega,by rw [g4];simp;omega,fun b hb hx=>g5 b (by rw [List.length_drop];omega) fun x hx'=>?_⟩
    rcases List.mem_append.1 hx' with hx' | hx'
    ·exact hx x hx'
    ·rw [List.mem_singleton.1 hx'];omega
   ·exact .inr g
  ·have hne:(gbytes r).2.2 ≠ 0:=by omega
   rw [if_pos hne];exact .inr hne
theorem gstrs_ok (s:Str):((gstrs s).2.2=0/\∃ u:Nat,(gstrs s).2.1=(u:Int)/\u <= s.length/\(gstrs s).1.length <= s.length/\∀ x ∈ (gstrs s).1,x.length <= s.length)\/((gstrs s).2.2 ≠ 0):=by
 unfold gstrs
 rcases lenW_ok s with ⟨e,n,u,h1,h2,h3⟩ | ⟨h1,h2,h3⟩
 ·rw [if_neg (by rw [e];simp)]
  have e1:(lenW s).1=(n:Int):=by rw [h1]
  have e2:(lenW s).2.1=(u:Int):=by rw [h1]
  rw [e1,e2,Int.toNat_natCast,Int.toNat_natCast]
  rcases getsS_ok n (s.drop u) u [] with ⟨e',u',g1,g2,g3,g4,g5⟩ | g
  ·rw [List.length_drop] at g3
   exact .inl ⟨e',u',g1,by omega,by rw [g4];simp;omega,g5 s.length (by rw [List.length_drop];omega) fun x hx=>by cases hx⟩
  ·exact .inr g
 ·have hne:(lenW s).2.2 ≠ 0:=by omega
  rw [if_pos hne];exact .inr hne

def hd (s:Str) (k:Int) (c:Nat) (more:Bool):Option (List Int × List Str) :=
 if (gints s).2.2=0/\(gints s).1.length=c/\(gints s).1.getD 0 0=k then
  if more=true then
   if (gstrs (s.drop (gints s).2.1.toNat)).2.2=0/\(gints s).2.1 + (gstrs (s.drop (gints s).2.1.toNat)).2.1=(s.length:Int) then some ((gints s).1,(gstrs (s.drop (gints s).2.1.toNat)).1) else none
  else if (gints s).2.1=(s.length:Int) then some ((gints s).1,[]) else none
 else none
theorem str_tail (s:Str) (a:Nat):(s.drop a).take (s.length - a)=s.drop a:=List.take_of_length_le (by rw [List.length_drop];exact Nat.le_refl _)
def oS {α:Type}:Option α->α ⊕ Unit
 | some x=>.inl x
 | none=>.inr ()
theorem must_t (N:Nat) {b:Bool} (h:b=true):G_leaf_must N b=some (.inl ()):=by subst h;rfl
theorem must_f (N:Nat) {b:Bool} (h:b=false):G_leaf_must N b=some (.inr ()):=by subst h;rfl
theorem head_eq {N:Nat} (s:Str) (k:Int) (c:Nat) (more:Bool) (hN:11 <= N) (hs:s.length < N) (hb:s.length <= 1000000) (hc:1 <= c):G_leaf_head N s k (c:Int) more=some (oS (hd s k c more)):=by
 unfold G_leaf_head hd
 rw [GetIntS_eq s hN hs hb,q_bd]
 unfold swp
 dsimp only
 rcases gints_ok s with ⟨e,u,h1,h2,h3,h4⟩ | h
 ·rw [eq_t e,q_if1]
  by_cases hl:(gints s).1.length=c
  ·obtain ⟨x,r,hx⟩:∃ x r,(gints s).1=x :: r:=by
    cases hg:(gints s).1 with
    | nil=>rw [hg] at hl;simp at hl;omega
    | cons x r=>exact ⟨x,r,rfl⟩
   have hg0:(gints s).1[0]?=some x:=by rw [hx];rfl
   have hgD:(gints s).1.getD 0 0=x:=by rw [hx];rfl
   rw [eq_t (show ((gints s).1.length:Int)=(c:Int) by omega),q_if1,q_gdT (by omega),q_gn hg0,hgD]
   by_cases hk:x=k
   ·rw [must_t N (eq_t hk),q_bd,q_sml,q_gl,q_jr,if_pos ⟨e,hl,hk⟩]
    dsimp only
    cases more with
    | true =>
     rw [Bool.not_true,q_if0,if_pos rfl,h1,Int.toNat_natCast,q_gdT (by omega),q_gdT h2,q_gdT (Nat.le_refl _),str_tail,GetStringS_eq _ hN (by rw [List.length_drop];omega) (by rw [List.length_drop];omega),q_bd]
     unfold swp
     dsimp only
     rcases gstrs_ok (s.drop u) with ⟨e',u',g1,g2,g3,g4⟩ | g
     ·rw [List.length_drop] at g2
      rw [eq_t e',q_if1,g1,q_ck (by omega) (by omega)]
      by_cases hh:(u:Int) + (u':Int)=(s.length:Int)
      ·rw [must_t N (eq_t hh),q_bd,q_sml,q_gl,q_gl,q_jr,if_pos ⟨e',hh⟩]
       dsimp only
       rw [q_gl,q_gl];rfl
      ·rw [must_f N (eq_f hh),q_bd,q_smr,q_inl,q_jl,if_neg (fun q=>hh q.2)];rfl
     ·rw [eq_f g,q_if0,must_f N rfl,q_bd,q_smr,q_inl,q_jl,if_neg (fun q=>g q.1)];rfl
    | false =>
     rw [Bool.not_false,q_if1,if_neg (by decide)]
     by_cases hh:(gints s).2.1=(s.length:Int)
     ·rw [must_t N (eq_t hh),q_bd,q_sml,q_gl,if_pos hh];rfl
     ·rw [must_f N (eq_f hh),q_bd,q_smr,if_neg hh];rfl
   ·rw [must_f N (eq_f hk),q_bd,q_smr,q_inl,q_jl,if_neg (fun q=>hk q.2.2)];rfl
  ·rw [eq_f (show ((gints s).1.length:Int) ≠ (c:Int) by omega),q_if0,must_f N rfl,q_bd,q_smr,q_inl,q_jl,if_neg (fun q=>hl q.2.1)];rfl
 ·rw [eq_f h,q_if0,must_f N rfl,q_bd,q_smr,q_inl,q_jl,if_neg (fun q=>h q.1)];rfl
theorem hd_ok {s:Str} {k:Int} {c:Nat} {more:Bool} {v:List Int × List Str} (h:hd s k c more=some v):v.1.length=c/\(∀ x ∈ v.1,I64 x)/\v.2.length <= s.length/\∀ x ∈ v.2,x.length <= s.length:=by
 unfold hd at h
 split at h
 ·rename_i hh
  obtain ⟨e,hl,hk⟩:=hh
  rcases gints_ok s with ⟨_,u,h1,h2,h3,h4⟩ | g
  ·split at h
   ·split at h
    ·rename_i hh
     cases h
     rcases gstrs_ok (s.drop (gints s).2.1.toNat) with ⟨_,u',g1,g2,g3,g4⟩ | g
     ·rw [List.length_drop] at g3 g4
      exact ⟨hl,h4,Nat.le_trans g3 (Nat.sub_le _ _),fun x hx=>Nat.le_trans (g4 x hx) (Nat.sub_le _ _)⟩
     ·exact absurd hh.1 g
    ·cases h
   ·split at h
    ·cases h
     exact ⟨hl,h4,by simp,fun x hx=>by cases hx⟩
    ·cases h
  ·exact absurd e g
 ·cases h

def uvI (n:Int):Str:=uvarint (zigzag n)
def encI (l:List Int):Str:=uvI (l.length:Int) ++ l.flatMap uvI
def encB (s:Str):Str:=uvI (s.length:Int) ++ s
def encS (l:List Str):Str:=uvI (l.length:Int) ++ l.flatMap encB
theorem zig_lt {n:Int} (h:I64 n):zigzag n < 18446744073709551616:=by
 obtain ⟨h1,h2⟩:=h
 unfold zigzag;split <;> omega
theorem unz_zig (n:Int):unz (zigzag n)=n:=by
 unfold unz zigzag
 split <;> split <;> omega
theorem uvI_len {n:Int} (h:I64 n):1 <= (uvI n).length/\(uvI n).length <= 10:=⟨uvarint_pos _,uvarint_length64 (zig_lt h)⟩
theorem giN_enc (r:Str):∀ (x k z:Nat),z + x * 128 ^ k < 18446744073709551616->(0 < x\/k=0)->giN k z (uvarint x ++ r)=(unz (z + x * 128 ^ k),((k + (uvarint x).length:Nat):Int),0):=by
 intro x
 induction x using Nat.strongRecOn with
 | _ x ih =>
  intro k z hb h0
  have h9:k=9->x <= 1:=fun e=>by
   subst e
   have:128 ^ 9=9223372036854775808:=rfl
   rw [this] at hb;omega
  by_cases hx:x < 128
  ·rw [uvarint_small hx,List.singleton_append,giN]
   have hc:x.toUInt8.toNat=x:=by show x % 256=x;omega
   rw [hc,if_neg (by omega),if_pos hx,Nat.mod_eq_of_lt hx]
   rfl
  ·rw [uvarint_big (by omega),List.cons_append,giN]
   have hc:(x % 128 + 128).toUInt8.toNat=x % 128 + 128:=by show (x % 128 + 128) % 256=_;omega
   have e:z + x % 128 * 128 ^ k + x / 128 * 128 ^ (k + 1)=z + x * 128 ^ k:=by
    have h1:x / 128 * 128 ^ (k + 1)=(x / 128 * 128) * 128 ^ k:=by rw [Nat.pow_succ,Nat.mul_comm (128 ^ k) 128,Nat.mul_assoc]
    rw [h1,Nat.add_assoc,<- Nat.add_mul]
    congr 2
    omega
   rw [hc,if_neg (by omega),if_neg (by omega),show (x % 128 + 128) % 128=x % 128 by omega,ih (x / 128) (by omega) (k + 1) _ (by rw [e];exact hb) (.inl (by omega)),e,List.length_cons]
   have:k + 1 + (uvarint (x / 128)).length=k + ((uvarint (x / 128)).length + 1):=by omega
   rw [this]
theorem gi_enc {n:Int} (h:I64 n) (r:Str):gi (uvI n ++ r)=(n,((uvI n).length:Int),0):=by
 unfold gi uvI
 rw [giN_enc r (zigzag n) 0 0 (by have:=zig_lt h;omega) (.inr rfl),Nat.zero_add,Nat.pow_zero,Nat.mul_one,unz_zig,Nat.zero_add]
theorem nat_I64 {n:Nat} (h:n <= 1000000):I64 (n:Int):=⟨by omega,by omega⟩
theorem lenW_enc {n:Nat} (h:n <= 1000000) (r:Str) (hr:n <= r.length):lenW (uvI (n:Int) ++ r)=((n:Int),((uvI (n:Int)).length:Int),0):=by
 unfold lenW
 rw [gi_enc (nat_I64 h)]
 rw [if_neg (by simp),if_neg (by simp only;omega),if_neg (by simp only [List.length_append];omega)]
theorem flat_len {α:Type} (f:α->Str):∀ (l:List α),(∀ x ∈ l,1 <= (f x).length)->l.length <= (l.flatMap f).length
 | [],_=>Nat.le_refl _
 | x :: l,h=>by
  rw [List.flatMap_cons,List.length_append,List.length_cons]
  have:=flat_len f l (fun y hy=>h y (by simp [hy]))
  have:=h x (by simp)
  omega
theorem drop_app {α:Type} (a b:List α):(a ++ b).drop a.length=b:=by rw [List.drop_append,List.drop_of_length_le (Nat.le_refl _),List.nil_append,Nat.sub_self,List.drop_zero]
theorem take_app {α:Type} (a b:List α):(a ++ b).take a.length=a:=by rw [List.take_append,List.take_of_length_le (Nat.le_refl _),Nat.sub_self,List.take_zero,List.append_nil]
theorem getsI_enc (r:Str):∀ (l:List Int) (a:Nat) (acc:List Int),(∀ x ∈ l,I64 x)->getsI l.length (l.flatMap uvI ++ r) (a:Int) acc=(acc ++ l,((a + (l.flatMap uvI).length:Nat):Int),0)
 | [],a,acc,_=>by rw [List.append_nil];rfl
 | x :: l,a,acc,h=>by
  rw [List.flatMap_cons,List.append_assoc,List.length_cons,getsI,gi_enc (h x (by simp))]
  rw [if_neg (by simp)]
  show getsI l.length ((uvI x ++ (l.flatMap uvI ++ r)).drop ((uvI x).length:Int).toNat) ((a:Int) + ((uvI x).length:Int)) (acc ++ [x])=_
  rw [Int.toNat_natCast,drop_app,show ((a:Int) + ((uvI x).length:Int))=((a + (uvI x).length:Nat):Int) by omega,getsI_enc r l _ _ (fun y hy=>h y (by simp [hy])),List.append_assoc,List.length_append,Nat.add_assoc]
  rfl
theorem gints_enc {l:List Int} (h:∀ x ∈ l,I64 x) (hl:l.length <= 1000000) (r:Str):gints (encI l ++ r)=(l,((encI l).length:Int),0):=by
 unfold gints encI
 have:=flat_len uvI l (fun x hx=>(uvI_len (h x hx)).1)
 rw [List.append_assoc,lenW_enc hl _ (by rw [List.length_append];omega),if_neg (by simp)]
 show getsI (l.length:Int).toNat ((uvI (l.length:Int) ++ (l.flatMap uvI ++ r)).drop ((uvI (l.length:Int)).length:Int).toNat) ((uvI (l.length:Int)).length:Int) []=_
 rw [Int.toNat_natCast,Int.toNat_natCast,drop_app,getsI_enc r l _ _ h,List.nil_append,List.length_append]
theorem gbytes_enc {s:Str} (h:s.length <= 1000000) (r:Str):gbytes (encB s ++ r)=(s,((encB s).length:Int),0):=by
 unfold gbytes encB
 rw [List.append_assoc,lenW_enc h _ (by rw [List.length_append];omega),if_neg (by simp)]
 show (((uvI (s.length:Int) ++ (s ++ r)).drop ((uvI (s.length:Int)).length:Int).toNat).take (s.length:Int).toNat,_,_)=_
 rw [Int.toNat_natCast,Int.toNat_natCast,drop_app,take_app,List.length_append]
 refine congrArg (fun x=>(s,x,(0:Int))) ?_
 show ((uvI (s.length:Int)).length:Int) + (s.length:Int)=_
 omega
theorem encB_len {s:Str} (h:s.length <= 1000000):1 <= (encB s).length:=by
 unfold encB
 have:=(uvI_len (nat_I64 h)).1
 rw [List.length_append];omega
theorem getsS_enc (r:Str):∀ (l:List Str) (a:Nat) (acc:List Str),(∀ x ∈ l,x.length <= 1000000)->getsS l.length (l.flatMap encB ++ r) (a:Int) acc=(acc ++ l,((a + (l.flatMap encB).length:Nat):Int),0)
 | [],a,acc,_=>by rw [List.append_nil];rfl
 | x :: l,a,acc,h=>by
  rw [List.flatMap_cons,List.append_assoc,List.length_cons,getsS,gbytes_enc (h x (by simp))]
  rw [if_neg (by simp)]
  show getsS l.length ((encB x ++ (l.flatMap encB ++ r)).drop ((encB x).length:Int).toNat) ((a:Int) + ((encB x).length:Int)) (acc ++ [x])=_
  rw [Int.toNat_natCast,drop_app,show ((a:Int) + ((encB x).length:Int))=((a + (encB x).length:Nat):Int) by omega,getsS_enc r l _ _ (fun y hy=>h y (by simp [hy])),List.append_assoc,List.length_append,Nat.add_assoc]
  rfl
theorem gstrs_enc {l:List Str} (h:∀ x ∈ l,x.length <= 1000000) (hl:l.length <= 1000000) (r:Str):gstrs (encS l ++ r)=(l,((encS l).length:Int),0):=by
 unfold gstrs encS
 have:=flat_len encB l (fun x hx=>encB_len (h x hx))
 rw [List.append_assoc,lenW_enc hl _ (by rw [List.length_append];omega),if_neg (by simp)]
 show getsS (l.length:Int).toNat ((uvI (l.length:Int) ++ (l.flatMap encB ++ r)).drop ((uvI (l.length:Int)).length:Int).toNat) ((uvI (l.length:Int)).length:Int) []=_
 rw [Int.toNat_natCast,Int.toNat_natCast,drop_app,getsS_enc r l _ _ h,List.nil_append,List.length_append]

theorem hd_false {l:List Int} (h:∀ x ∈ l,I64 x) (hl:l.length <= 1000000) (k:Int) (c:Nat) (h1:l.length=c) (h2:l.getD 0 0=k):hd (encI l) k c false=some (l,[]):=by
 unfold hd
 have:=gints_enc h hl []
 rw [List.append_nil] at this
 rw [this,if_pos ⟨rfl,h1,h2⟩,if_neg (by decide),if_pos rfl]
theorem hd_true {l:List Int} {p:List Str} (h:∀ x ∈ l,I64 x) (hl:l.length <= 1000000) (hp:∀ x ∈ p,x.length <= 1000000) (hpl:p.length <= 1000000) (k:Int) (c:Nat) (h1:l.length=c) (h2:l.getD 0 0=k):hd (encI l ++ encS p) k c true=some (l,p):=by
 unfold hd
 rw [gints_enc h hl (encS p),if_pos ⟨rfl,h1,h2⟩,if_pos rfl]
 have e:(encI l ++ encS p).drop ((l,((encI l).length:Int),(0:Int)).2.1).toNat=encS p:=by
  show (encI l ++ encS p).drop ((encI l).length:Int).toNat=encS p
  rw [Int.toNat_natCast,drop_app]
 rw [e]
 have:=gstrs_enc hp hpl []
 rw [List.append_nil] at this
 rw [this,if_pos ⟨rfl,by simp only [List.length_append];omega⟩]
end Go.Proofs.Tryz

set_option maxRecDepth 8000
set_option linter.all false
set_option synthInstance.maxSize 100000
set_option synthInstance.maxHeartbeats 400000
namespace Go.Proofs.Tryz
open Go.Eng Go.RowKit Go.Lib
abbrev Rd:=Int × (Int × (Int × (Int × (Int × Int))))
abbrev Pt:=Int × (Bool × (Str × Str))
theorem wli_s (N m:Nat):L_wire_list_int_0 N (m + 1)=B_wire_list_int_0 N (L_wire_list_int_0 N m):=rfl
theorem wls_s (N m:Nat):L_wire_list_string_0 N (m + 1)=B_wire_list_string_0 N (L_wire_list_string_0 N m):=rfl
theorem get_drop {α:Type} {l:List α} {i:Nat} (h:i < l.length):l.drop i=l[i] :: l.drop (i + 1):=List.drop_eq_getElem_cons h
theorem Int_uv {N:Nat} {n:Int} (hN:20 <= N) (hn:I64 n):G_wire_Int N n=some (intsS (uvI n)):=Int_enc N n hN hn
theorem lint_loop {N:Nat} (hN:20 <= N) (l:List Int) (h:∀ x ∈ l,I64 x) (hl:l.length <= 100000):∀ (k i m:Nat) (acc:List Int),i + k=l.length->k < m->acc.length <= 10 + 10 * i->L_wire_list_int_0 N m l ((l.length:Nat):Int) (i:Int) acc=some (acc ++ intsS ((l.drop i).flatMap uvI))
 | k,i,0,acc,_,h,_=>by omega
 | 0,i,m + 1,acc,hi,_,_=>by
  rw [wli_s]
  unfold B_wire_list_int_0
  rw [q_iff (decide_eq_false (by omega)),q_gl,List.drop_of_length_le (by omega)]
  exact congrArg some (List.append_nil acc).symm
 | k + 1,i,m + 1,acc,hi,hm,ha=>by
  have hlt:i < l.length:=by omega
  have hx:=h _ (List.getElem_mem hlt)
  have hu:=uvI_len hx
  rw [wli_s]
  unfold B_wire_list_int_0
  rw [q_ift (decide_eq_true (by omega)),q_get (List.getElem?_eq_getElem hlt),Int_uv hN hx,q_bd,q_gl,q_gl,q_gdT (by rw [intsS_len];omega),q_ck (by omega) (by omega),q_gl,show ((i:Int) + 1)=((i + 1:Nat):Int) by omega,lint_loop hN l h hl k (i + 1) m _ (by omega) (by omega) (by rw [List.length_append,intsS_len];omega),get_drop hlt,List.flatMap_cons,intsS_app,List.append_assoc]
theorem numbers_eq {N:Nat} (hN:20 <= N) (l:List Int) (h:∀ x ∈ l,I64 x) (hl:l.length < N) (hb:l.length <= 100000):G_leaf_numbers N l=some (encI l):=by
 unfold G_leaf_numbers G_wire_Ints G_wire_list_int
 rw [Int_uv hN (nat_I64 (by omega)),q_bd,q_gl]
 have hu:=uvI_len (nat_I64 (show l.length <= 1000000 by omega))
 have:=lint_loop hN l h hb l.length 0 N (intsS (uvI (l.length:Int))) (by omega) hl (by rw [intsS_len];omega)
 rw [show (((0:Nat):Int))=0 from rfl] at this
 rw [this,q_bd,q_gl,q_bd,q_gl,List.drop_zero,<- intsS_app,bytesI_ints]
 rfl
theorem Bytes_enc {N:Nat} (hN:20 <= N) (s:Str) (hs:s.length <= 1000000):G_wire_Bytes N s=some (intsS (encB s)):=by
 unfold G_wire_Bytes
 have hu:=uvI_len (nat_I64 hs)
 rw [Int_uv hN (nat_I64 hs),q_bd,q_gl,q_gdT (by rw [intsS_len,intsS_len];omega),q_gl,<- intsS_app]
 rfl
theorem lstr_loop {N:Nat} (hN:20 <= N) (l:List Str) (h:∀ x ∈ l,x.length <= 100000) (hl:l.length <= 100000):∀ (k i m:Nat) (acc:List Int),i + k=l.length->k < m->acc.length <= 10 + 200000 * i->L_wire_list_string_0 N m l ((l.length:Nat):Int) (i:Int) acc=some (acc ++ intsS ((l.drop i).flatMap encB))
 | k,i,0,acc,_,h,_=>by omega
 | 0,i,m + 1,acc,hi,_,_=>by
  rw [wls_s]
  unfold B_wire_list_string_0
  rw [q_iff (decide_eq_false (by omega)),q_gl,List.drop_of_length_le (by omega)]
  exact congrArg some (List.append_nil acc).symm
 | k + 1,i,m + 1,acc,hi,hm,ha=>by
  have hlt:i < l.length:=by omega
  have hx:=h _ (List.getElem_mem hlt)
  have hu:(encB l[i]).length <= 200000:=by
   unfold encB
   have:=(uvI_len (nat_I64 (show (l[i]).length <= 1000000 by omega))).2
   rw [List.length_append];omega
  rw [wls_s]
  unfold B_wire_list_string_0
  rw [q_ift (decide_eq_true (by omega)),q_get (List.getElem?_eq_getElem hlt),Bytes_enc hN _ (by omega),q_bd,q_gl,q_gl,q_gdT (by rw [intsS_len];omega),q_ck (by omega) (by omega),q_gl,show ((i:Int) + 1)=((i + 1:Nat):Int) by omega,lstr_loop hN l h hl k (i + 1) m _ (by omega) (by omega) (by rw [List.length_append,intsS_len];omega),get_drop hlt,List.flatMap_cons,intsS_app,List.append_assoc]
theorem Strings_eq {N:Nat} (hN:20 <= N) (l:List Str) (h:∀ x ∈ l,x.length <= 100000) (hl:l.length < N) (hb:l.length <= 100000):G_wire_Strings N l=some (intsS (encS l)):=by
 unfold G_wire_Strings G_wire_list_string
 rw [Int_uv hN (nat_I64 (by omega)),q_bd,q_gl]
 have hu:=uvI_len (nat_I64 (show l.length <= 1000000 by omega))
 have:=lstr_loop hN l h hb l.length 0 N (intsS (uvI (l.length:Int))) (by omega) hl (by rw [intsS_len];omega)
 rw [show (((0:Nat):Int))=0 from rfl] at this
 rw [this,q_bd,q_gl,List.drop_zero,<- intsS_app]
 rfl
def rl (r:Rd):List Int:=[1,r.1,r.2.1,r.2.2.1,r.2.2.2.1,r.2.2.2.2.1,r.2.2.2.2.2]
def encR (r:Rd):Str:=encI (rl r)
def okR (r:Rd):Prop:=∀ x ∈ rl r,I64 x
theorem Reading_eq {N:Nat} (hN:20 <= N) {r:Rd} (h:okR r):G_leaf_Reading N r=some (encR r):=by
 unfold G_leaf_Reading
 rw [show [1,r.1,r.2.1,r.2.2.1,r.2.2.2.1,r.2.2.2.2.1,r.2.2.2.2.2]=rl r from rfl,numbers_eq hN _ h (by show 7 < N;omega) (by show 7 <= _;omega),q_bd]
 rfl
theorem get_D {α β:Type} {l:List α} {i:Nat} {d:α} {f:α->Option β} (h:i < l.length):get? l (i:Int) f=f (l.getD i d):=by
 rw [q_get (List.getElem?_eq_getElem h),List.getD_eq_getElem?_getD,List.getElem?_eq_getElem h];rfl
def grd (s:Str):Rd × Int :=
 match hd s 1 7 false with
 | none=>((0,(0,(0,(0,(0,0))))),11)
 | some v=>((v.1.getD 1 0,(v.1.getD 2 0,(v.1.getD 3 0,(v.1.getD 4 0,(v.1.getD 5 0,v.1.getD 6 0))))),0)
theorem GetReading_eq {N:Nat} (s:Str) (hN:11 <= N) (hs:s.length < N) (hb:s.length <= 1000000):G_leaf_GetReading N s=some (grd s):=by
 unfold G_leaf_GetReading grd
 rw [show (7:Int)=((7:Nat):Int) from rfl,head_eq s 1 7 false hN hs hb (by omega),q_bd]
 cases h:hd s 1 7 false with
 | none=>rfl
 | some v =>
  have hl:=(hd_ok h).1
  unfold oS
  rw [q_sml,show (1:Int)=((1:Nat):Int) from rfl,get_D (d:=0) (by omega),show (2:Int)=((2:Nat):Int) from rfl,get_D (d:=0) (by omega),show (3:Int)=((3:Nat):Int) from rfl,get_D (d:=0) (by omega),show (4:Int)=((4:Nat):Int) from rfl,get_D (d:=0) (by omega),show (5:Int)=((5:Nat):Int) from rfl,get_D (d:=0) (by omega),show (6:Int)=((6:Nat):Int) from rfl,get_D (d:=0) (by omega)]
  rfl
theorem grd_enc {r:Rd} (h:okR r):grd (encR r)=(r,0):=by
 unfold grd encR
 rw [hd_false h (by show 7 <= _;omega) 1 7 rfl rfl]
 rfl
def sgb (b:Bool):Int:=if b then 1 else 0
def prt (p:Pt):List Str:=[uvI p.1,uvI (sgb p.2.1),p.2.2.1,p.2.2.2]
def vl (v:Vr):List Int:=[2,v.1,v.2.1,v.2.2.1,v.2.2.2.1,v.2.2.2.2.1,v.2.2.2.2.2.1,v.2.2.2.2.2.2.1]
abbrev vp (v:Vr):List Pt:=v.2.2.2.2.2.2.2
def encV (v:Vr):Str:=encI (vl v) ++ encS ((vp v).flatMap prt)
def okP (l:List Pt):Prop:=∀ p ∈ l,I64 p.1/\p.2.2.1.length <= 50000/\p.2.2.2.length <= 50000
def okV (v:Vr):Prop:=(∀ x ∈ vl v,I64 x)/\(vp v).length <= 1000/\okP (vp v)
theorem I64_lit:I64 0/\I64 1:=⟨⟨by decide,by decide⟩,⟨by decide,by decide⟩⟩
theorem sg_I64 (b:Bool):I64 (sgb b):=by cases b <;> exact ⟨by decide,by decide⟩
theorem prt_len (l:List Pt):(l.flatMap prt).length=4 * l.length:=by
 induction l with
 | nil=>rfl
 | cons x l ih=>rw [List.flatMap_cons,List.length_append,ih,List.length_cons];show 4 + _=_;omega
theorem prt_ok {l:List Pt} (h:okP l):∀ x ∈ l.flatMap prt,x.length <= 50000:=fun x hx=>by
 obtain ⟨p,hp,hx⟩:=List.mem_flatMap.1 hx
 obtain ⟨h1,h2,h3⟩:=h p hp
 unfold prt at hx
 simp only [List.mem_cons,List.not_mem_nil,or_false] at hx
 rcases hx with rfl | rfl | rfl | rfl
 ·have:=(uvI_len h1).2;omega
 ·have:=(uvI_len (sg_I64 p.2.1)).2;omega
 ·exact h2
 ·exact h3
theorem take_next {α:Type} (l:List α) (i:Nat) (h:i < l.length):l.take (i + 1)=l.take i ++ [l[i]]:=by
 rw [List.take_add_one,List.getElem?_eq_getElem h];rfl
theorem wv_s (N m:Nat):L_leaf_Version_0 N (m + 1)=B_leaf_Version_0 N (L_leaf_Version_0 N m):=rfl
theorem encB_le {k:Nat}:∀ l:List Str,k <= 1000000->(∀ x ∈ l,x.length <= k)->(l.flatMap encB).length <= (k + 10) * l.length
 | [],_,_=>Nat.le_refl _
 | x :: l,hk,h=>by
  have h1:=encB_le l hk (fun y hy=>h y (by simp [hy]))
  have h2:=h x (by simp)
  have h3:=(uvI_len (nat_I64 (show x.length <= 1000000 by omega))).2
  have h4:(encB x).length <= k + 10:=by unfold encB;rw [List.length_append];omega
  rw [List.flatMap_cons,List.length_append,List.length_cons,Nat.mul_succ];omega
theorem uvI_le:∀ l:List Int,(∀ x ∈ l,I64 x)->(l.flatMap uvI).length <= 10 * l.length
 | [],_=>Nat.le_refl _
 | x :: l,h=>by
  have h1:=uvI_le l (fun y hy=>h y (by simp [hy]))
  have h2:=(uvI_len (h x (by simp))).2
  rw [List.flatMap_cons,List.length_append,List.length_cons];omega
theorem encI_le {l:List Int} (h:∀ x ∈ l,I64 x) (hb:l.length <= 1000000):(encI l).length <= 10 * l.length + 10:=by
 unfold encI
 have:=(uvI_len (nat_I64 hb)).2
 have:=uvI_le l h
 rw [List.length_append];omega
theorem encS_le {l:List Str} {k:Nat} (hk:k <= 1000000) (h:∀ x ∈ l,x.length <= k) (hb:l.length <= 1000000):(encS l).length <= (k + 10) * l.length + 10:=by
 unfold encS
 have:=(uvI_len (nat_I64 hb)).2
 have:=encB_le l hk h
 rw [List.length_append];omega
theorem vwr_loop {N:Nat} (hN:20 <= N) (v:Vr) (hv:okV v) (hl:4 * (vp v).length < N):∀ (k i m:Nat),i + k=(vp v).length->k < m->L_leaf_Version_0 N m (vp v) (((vp v).length:Nat):Int) (i:Int) v.1 v.2.1 v.2.2.1 v.2.2.2.1 v.2.2.2.2.1 v.2.2.2.2.2.1 v.2.2.2.2.2.2.1 (vp v) (((vp v).take i).flatMap prt)=some (encV v)
 | k,i,0,_,h=>by omega
 | 0,i,m + 1,hi,_=>by
  obtain ⟨h1,h2,h3⟩:=hv
  rw [wv_s]
  unfold B_leaf_Version_0
  rw [q_iff (decide_eq_false (by omega)),List.take_of_length_le (by omega)]
  have e:=numbers_eq hN (vl v) h1 (by show 8 < N;omega) (by show 8 <= _;omega)
  show bd? (G_leaf_numbers N (vl v)) _=_
  have hs:=prt_ok h3
  rw [e,q_bd,q_gl,Strings_eq hN _ (fun x hx=>by have:=hs x hx;omega) (by rw [prt_len];omega) (by rw [prt_len];omega),q_bd,q_gl,bytesI_ints]
  refine q_gdT ?_
  have a1:=encI_le h1 (by show 8 <= _;omega)
  have a2:=encS_le (by omega) hs (by rw [prt_len];omega)
  have h9:(vl v).length=8:=rfl
  rw [prt_len] at a2
  have a3:(50000 + 10) * (4 * (vp v).length) <= 50010 * 4000:=Nat.mul_le_mul_left _ (by omega)
  omega
 | k + 1,i,m + 1,hi,hm=>by
  have hlt:i < (vp v).length:=by omega
  obtain ⟨h1,h2,h3⟩:=hv
  obtain ⟨g1,g2,g3⟩:=h3 _ (List.getElem_mem hlt)
  have hlen:(((vp v).take i).flatMap prt).length <= 4000:=by rw [prt_len,List.length_take];omega
  have ih:=vwr_loop hN v ⟨h1,h2,h3⟩ hl k (i + 1) m (by omega) (by omega)
  rw [take_next _ _ hlt,List.flatMap_append] at ih
  have e:([(vp v)[i]]:List Pt).flatMap prt=[uvI (vp v)[i].1,uvI (sgb (vp v)[i].2.1),(vp v)[i].2.2.1,(vp v)[i].2.2.2]:=by
   rw [List.flatMap_cons,List.flatMap_nil,List.append_nil];rfl
  rw [e] at ih
  rw [wv_s]
  unfold B_leaf_Version_0
  rw [q_ift (decide_eq_true (by omega)),q_get (List.getElem?_eq_getElem hlt)]
  generalize (vp v)[i]=p at *
  obtain ⟨st,ng,a,b⟩:=p
  dsimp only at *
  cases ng with
  | true =>
   rw [q_if1,q_gl,q_bd]
   dsimp only
   rw [Int_uv hN g1,q_bd,q_gl,Int_uv hN I64_lit.2,q_bd,q_gl,q_gl,bytesI_ints,bytesI_ints,q_gdT (by simp only [List.length_cons,List.length_nil];omega),q_ck (by omega) (by omega),q_gl]
   exact ih
  | false =>
   rw [q_if0,q_gl,q_bd]
   dsimp only
   rw [Int_uv hN g1,q_bd,q_gl,Int_uv hN I64_lit.1,q_bd,q_gl,q_gl,bytesI_ints,bytesI_ints,q_gdT (by simp only [List.length_cons,List.length_nil];omega),q_ck (by omega) (by omega),q_gl]
   exact ih
theorem Version_eq {N:Nat} (hN:20 <= N) {v:Vr} (h:okV v) (hl:4 * (vp v).length < N):G_leaf_Version N v=some (encV v):=by
 unfold G_leaf_Version
 exact vwr_loop hN v h hl (vp v).length 0 N (by omega) (by omega)
end Go.Proofs.Tryz

set_option maxRecDepth 8000
set_option linter.all false
set_option synthInstance.maxSize 100000
set_option synthInstance.maxHeartbeats 400000
namespace Go.Proofs.Tryz
open Go.Eng Go.RowKit Go.Lib
def one (s:Str):Option Int:=if (gi s).2.2=0/\(gi s).2.1=(s.length:Int) then some (gi s).1 else none
theorem one_eq {N:Nat} (hN:11 <= N) (s:Str):G_leaf_one N s=some (oS (one s)):=by
 unfold G_leaf_one one
 rw [GetInt_eq hN,q_bd]
 by_cases e:(gi s).2.2=0
 ·rw [eq_t e,q_if1]
  by_cases hh:(gi s).2.1=(s.length:Int)
  ·rw [must_t N (eq_t hh),q_bd,q_sml,q_jr,if_pos ⟨e,hh⟩];rfl
  ·rw [must_f N (eq_f hh),q_bd,q_smr,q_inl,q_jl,if_neg (fun q=>hh q.2)];rfl
 ·rw [eq_f e,q_if0,must_f N rfl,q_bd,q_smr,q_inl,q_jl,if_neg (fun q=>e q.1)];rfl
def pts:List Str->List Pt->Option (List Pt)
 | a :: b :: c :: d :: r,acc=>match one a,one b with
  | some st,some ng=>if ng=0\/ng=1 then pts r (acc ++ [(st,(ng == 1,(c,d)))]) else none
  | _,_=>none
 | _,acc=>some acc
def vz:Vr:=(0,(0,(0,(0,(0,(0,(0,[])))))))
def vD (l:List Int) (p:List Pt):Vr:=(l.getD 1 0,(l.getD 2 0,(l.getD 3 0,(l.getD 4 0,(l.getD 5 0,(l.getD 6 0,(l.getD 7 0,p)))))))
def gvr (s:Str):Vr × Int :=
 match hd s 2 8 true with
 | none=>(vz,11)
 | some v=>if v.2.length % 4=0 then
   match pts v.2 [] with
   | none=>(vz,11)
   | some l=>(vD v.1 l,0)
  else (vz,11)
def fl (v:Vr × Int):Int × (Int × (Int × (Int × (Int × (Int × (Int × (List Pt × Int))))))):=(v.1.1,(v.1.2.1,(v.1.2.2.1,(v.1.2.2.2.1,(v.1.2.2.2.2.1,(v.1.2.2.2.2.2.1,(v.1.2.2.2.2.2.2.1,(v.1.2.2.2.2.2.2.2,v.2))))))))
def pt' (l:List Int):Option (List Pt)->Vr × Int
 | none=>(vz,11)
 | some p=>(vD l p,0)
theorem gv_s (N m:Nat):L_leaf_GetVersion_0 N (m + 1)=B_leaf_GetVersion_0 N (L_leaf_GetVersion_0 N m):=rfl
theorem caught_p (N:Nat) (e:Int):G_leaf_caught_p N e=some 11:=rfl
theorem caught_r (N:Nat) (e:Int):G_leaf_caught_r N e=some e:=rfl
theorem ver_loop {N:Nat} (hN:11 <= N) (v:List Int) (hv:v.length=8):∀ (k m:Nat) (l:List Str) (acc:List Pt),l.length=4 * k->k < m->acc.length + k <= 1000000 ->
  L_leaf_GetVersion_0 N m v l 0 0 0 0 0 0 0 0 [] acc=some (fl (pt' v (pts l acc)))
 | k,0,l,acc,_,h,_=>by omega
 | 0,m + 1,l,acc,hl,_,_=>by
  have:l=[]:=List.length_eq_zero_iff.1 (by omega)
  subst this
  rw [gv_s]
  unfold B_leaf_GetVersion_0
  rw [q_iff (by rfl),show (1:Int)=((1:Nat):Int) from rfl,get_D (d:=0) (by omega),show (2:Int)=((2:Nat):Int) from rfl,get_D (d:=0) (by omega),show (3:Int)=((3:Nat):Int) from rfl,get_D (d:=0) (by omega),show (4:Int)=((4:Nat):Int) from rfl,get_D (d:=0) (by omega),show (5:Int)=((5:Nat):Int) from rfl,get_D (d:=0) (by omega),show (6:Int)=((6:Nat):Int) from rfl,get_D (d:=0) (by omega),show (7:Int)=((7:Nat):Int) from rfl,get_D (d:=0) (by omega)]
  simp only [q_gd,caught_r,q_bd,q_gl]
  rfl
 | k + 1,m + 1,l,acc,hl,hm,hb=>by
  obtain ⟨a,b,c,d,r,rfl⟩:∃ a b c d r,l=a :: b :: c :: d :: r:=by
   match l,hl with
   | a :: b :: c :: d :: r,_=>exact ⟨a,b,c,d,r,rfl⟩
   | [],h=>simp at h
   | [_],h=>simp at h;omega
   | [_,_],h=>simp at h;omega
   | [_,_,_],h=>simp at h;omega
  have hr:r.length=4 * k:=by simp only [List.length_cons] at hl;omega
  have e4:List.take ((a :: b :: c :: d :: r).length - 4) (List.drop 4 (a :: b :: c :: d :: r))=r:=by
   show r.take (r.length + 4 - 4)=r
   rw [Nat.add_sub_cancel,List.take_length]
  have fin:∀ (st ng:Int) (x:Bool),x=(ng == 1)->(gd? ((((acc.length + [(st,(x,(c,d)))].length) * 48) <= 140737488355328)) (gd? ((4 <= (a :: b :: c :: d :: r).length)) (gd? (((a :: b :: c :: d :: r).length <= (a :: b :: c :: d :: r).length)) (gl? (([]:List Pt).length) ([]:List Pt) (gl? ((acc ++ [(st,(x,(c,d)))]).length) ((acc ++ [(st,(x,(c,d)))])) (L_leaf_GetVersion_0 N m v (List.take ((a :: b :: c :: d :: r).length - 4) (List.drop 4 (a :: b :: c :: d :: r))) 0 0 0 0 0 0 0 0 [] (acc ++ [(st,(x,(c,d)))])))))))=L_leaf_GetVersion_0 N m v r 0 0 0 0 0 0 0 0 [] (acc ++ [(st,(ng == 1,(c,d)))]):=fun st ng x hx=>by
   subst hx
   rw [q_gdT (by simp only [List.length_cons,List.length_nil];omega),q_gdT (by simp only [List.length_cons];omega),q_gdT (Nat.le_refl _),q_gl,q_gl,e4]
  rw [gv_s]
  unfold B_leaf_GetVersion_0
  rw [q_ift (decide_eq_true (by simp only [List.length_cons];omega)),q_geti (x:=a) (by decide) rfl,q_geti (x:=b) (by decide) rfl,one_eq hN,q_bd,one_eq hN,pts]
  cases ha:one a with
  | none =>
   unfold oS
   rw [q_smr,caught_p,q_bd,q_gl]
   rfl
  | some st =>
   cases hb2:one b with
   | none =>
    unfold oS
    rw [q_sml,q_bd,q_smr,caught_p,q_bd,q_gl]
    rfl
   | some ng =>
    unfold oS
    rw [q_sml,q_bd,q_sml]
    have ih:=ver_loop hN v hv k m r (acc ++ [(st,(ng == 1,(c,d)))]) hr (by omega) (by simp only [List.length_append,List.length_cons,List.length_nil];omega)
    by_cases h0:ng=0
    ·rw [eq_t h0,q_if1,must_t N rfl,q_bd,q_sml,q_gl,q_gl,q_jr]
     dsimp only
     rw [q_geti (x:=c) (by decide) rfl,q_geti (x:=d) (by decide) rfl,q_gl]
     refine (fin st ng _ rfl).trans (ih.trans ?_)
     simp only [h0,true_or,if_true]
    ·rw [eq_f h0,q_if0]
     by_cases h1:ng=1
     ·rw [must_t N (eq_t h1),q_bd,q_sml,q_gl,q_gl,q_jr]
      dsimp only
      rw [q_geti (x:=c) (by decide) rfl,q_geti (x:=d) (by decide) rfl,q_gl]
      refine (fin st ng _ rfl).trans (ih.trans ?_)
      simp only [if_pos (Or.inr h1:ng=0\/ng=1)]
     ·rw [must_f N (eq_f h1),q_bd,q_smr,caught_p,q_bd,q_gl,q_inl,q_jl]
      simp only [h0,h1,or_self,if_false]
      rfl
theorem GetVersion_eq {N:Nat} (s:Str) (hN:11 <= N) (hs:s.length + 1 < N) (hb:s.length <= 100000):G_leaf_GetVersion N s=some (fl (gvr s)):=by
 unfold G_leaf_GetVersion gvr
 rw [show (8:Int)=((8:Nat):Int) from rfl,head_eq s 2 8 true hN (by omega) (by omega) (by omega),q_bd]
 cases h:hd s 2 8 true with
 | none=>rfl
 | some v =>
  obtain ⟨hl,_,hp,_⟩:=hd_ok h
  unfold oS
  rw [q_sml]
  dsimp only
  by_cases h4:v.2.length % 4=0
  ·have:Int.tmod (v.2.length:Int) 4=0:=by rw [show (4:Int)=((4:Nat):Int) from rfl,<- Int.ofNat_tmod,h4];rfl
   rw [must_t N (eq_t this),q_bd,q_sml,ver_loop hN v.1 hl (v.2.length / 4) N v.2 [] (by omega) (by omega) (by simp;omega),if_pos h4]
   cases pts v.2 [] <;> rfl
  ·have:Int.tmod (v.2.length:Int) 4 ≠ 0:=by rw [show (4:Int)=((4:Nat):Int) from rfl,<- Int.ofNat_tmod];omega
   rw [must_f N (eq_f this),q_bd,q_smr,caught_p,q_bd,if_neg h4]
   rfl
theorem one_enc {n:Int} (h:I64 n):one (uvI n)=some n:=by
 unfold one
 have:=gi_enc h []
 rw [List.append_nil] at this
 rw [this,if_pos ⟨rfl,rfl⟩]
theorem pts_enc:∀ (l acc:List Pt),(∀ p ∈ l,I64 p.1)->pts (l.flatMap prt) acc=some (acc ++ l)
 | [],acc,_=>by rw [List.append_nil];rfl
 | p :: l,acc,h=>by
  rw [List.flatMap_cons]
  show pts (uvI p.1 :: uvI (sgb p.2.1) :: p.2.2.1 :: p.2.2.2 :: l.flatMap prt) acc=_
  rw [pts,one_enc (h p (by simp)),one_enc (sg_I64 _)]
  have e:((p.1,(sgb p.2.1 == 1,(p.2.2.1,p.2.2.2))):Pt)=p:=by
   obtain ⟨st,ng,a,b⟩:=p
   cases ng <;> rfl
  have h01:sgb p.2.1=0\/sgb p.2.1=1:=by cases p.2.1 <;> simp [sgb]
  simp only [if_pos h01]
  rw [e,pts_enc l _ (fun q hq=>h q (by simp [hq])),List.append_assoc]
  rfl
theorem gvr_enc {v:Vr} (h:okV v):gvr (encV v)=(v,0):=by
 obtain ⟨h1,h2,h3⟩:=h
 unfold gvr encV
 have hp:=prt_ok h3
 rw [hd_true h1 (by show 8 <= _;omega) (fun x hx=>by have:=hp x hx;omega) (by rw [prt_len];omega) 2 8 rfl rfl]
 simp only
 rw [if_pos (by rw [prt_len];omega),pts_enc _ [] (fun p hp=>(h3 p hp).1)]
 rfl
end Go.Proofs.Tryz

set_option maxRecDepth 8000
set_option linter.all false
set_option synthInstance.maxSize 100000
set_option synthInstance.maxHeartbeats 400000
namespace Go.Proofs.Tryz
open Go.Eng Go.RowKit Go.Lib
theorem drop_of {α:Type} {s a b:List α} (h:s=a ++ b):s.drop a.length=b:=by rw [h];exact drop_app a b
theorem giN_can:∀ (s:Str) (k z:Nat),k <= 9->z < 128 ^ k->(giN k z s).2.2=0->∃ y r,s=uvarint y ++ r/\(0 < y\/k=0)/\z + y * 128 ^ k < 18446744073709551616/\giN k z s=(unz (z + y * 128 ^ k),((k + (uvarint y).length:Nat):Int),0)
 | [],k,z,_,_,h=>by cases h
 | c :: s,k,z,hk,hz,h=>by
  rw [giN] at h |-
  have hcl:=c.toNat_lt
  by_cases hb:(k=9/\1 < c.toNat)\/(0 < k/\c.toNat=0)
  ·rw [if_pos hb] at h;cases h
  ·rw [if_neg hb] at h |-
   obtain ⟨_,h2,h3⟩:=zz_eq z k c.toNat hz hk (by omega) (by omega)
   by_cases hh:c.toNat < 128
   ·rw [if_pos hh]
    rw [Nat.mod_eq_of_lt hh] at h2 |-
    have e:c.toNat.toUInt8=c:=UInt8.ofNat_toNat
    refine ⟨c.toNat,s,?_,by omega,h2,?_⟩
    ·rw [uvarint_small hh,e];rfl
    ·rw [uvarint_small hh];rfl
   ·rw [if_neg hh] at h |-
    obtain ⟨y,r,g1,g2,g3,g4⟩:=giN_can s (k + 1) _ (by omega) (h3 (by omega)) h
    have hy:0 < y:=by omega
    have e:z + c.toNat % 128 * 128 ^ k + y * 128 ^ (k + 1)=z + (c.toNat % 128 + 128 * y) * 128 ^ k:=by
     have h1:y * 128 ^ (k + 1)=(128 * y) * 128 ^ k:=by rw [Nat.pow_succ,Nat.mul_comm (128 ^ k) 128,<- Nat.mul_assoc,Nat.mul_comm y 128]
     rw [h1,Nat.add_assoc,<- Nat.add_mul]
    have ec:(((c.toNat % 128 + 128 * y) % 128 + 128).toUInt8)=c:=by
     have:(c.toNat % 128 + 128 * y) % 128 + 128=c.toNat:=by omega
     rw [this];exact UInt8.ofNat_toNat
    have hu:uvarint (c.toNat % 128 + 128 * y)=c :: uvarint y:=by
     rw [uvarint_big (x:=c.toNat % 128 + 128 * y) (by omega),ec,show (c.toNat % 128 + 128 * y) / 128=y by omega]
    refine ⟨c.toNat % 128 + 128 * y,r,?_,.inl (by omega),by rw [<- e];exact g3,?_⟩
    ·rw [hu,List.cons_append,<- g1]
    ·rw [g4,e,hu,List.length_cons,show k + 1 + (uvarint y).length=k + ((uvarint y).length + 1) by omega]
theorem zig_unz (z:Nat):zigzag (unz z)=z:=by
 unfold unz zigzag
 split <;> split <;> omega
theorem gi_can {s:Str} (h:(gi s).2.2=0):∃ r,s=uvI (gi s).1 ++ r/\(gi s).2.1=((uvI (gi s).1).length:Int):=by
 unfold gi at *
 obtain ⟨y,r,h1,_,_,h4⟩:=giN_can s 0 0 (by omega) (by decide) h
 rw [h4]
 unfold uvI
 dsimp only
 rw [Nat.zero_add,Nat.pow_zero,Nat.mul_one,zig_unz,Nat.zero_add]
 exact ⟨r,h1,rfl⟩
theorem lenW_can {s:Str} (h:(lenW s).2.2=0):∃ r,s=uvI (lenW s).1 ++ r/\(lenW s).2.1=((uvI (lenW s).1).length:Int):=by
 unfold lenW at *
 by_cases h1:(gi s).2.2 ≠ 0
 ·rw [if_pos h1] at h;exact absurd h h1
 ·rw [if_neg h1] at h |-
  by_cases h2:(gi s).1 < 0
  ·rw [if_pos h2] at h;cases h
  ·rw [if_neg h2] at h |-
   by_cases h3:(gi s).1 > (s.length:Int) - (gi s).2.1
   ·rw [if_pos h3] at h;cases h
   ·rw [if_neg h3]
    exact gi_can (by omega)
theorem getsI_can:∀ (n:Nat) (r:Str) (a:Nat) (acc:List Int),(getsI n r (a:Int) acc).2.2=0->∃ l t,(getsI n r (a:Int) acc).1=acc ++ l/\l.length=n/\r=l.flatMap uvI ++ t/\(getsI n r (a:Int) acc).2.1=((a + (l.flatMap uvI).length:Nat):Int)
 | 0,r,a,acc,h=>⟨[],r,by rw [List.append_nil];rfl,rfl,rfl,rfl⟩
 | n + 1,r,a,acc,h=>by
  rw [getsI] at h |-
  by_cases he:(gi r).2.2 ≠ 0
  ·rw [if_pos he] at h;exact absurd h he
  ·rw [if_neg he] at h |-
   obtain ⟨q,h1,h2⟩:=gi_can (show (gi r).2.2=0 by omega)
   have hd:r.drop (gi r).2.1.toNat=q:=by
    rw [h2,Int.toNat_natCast]
    exact drop_of h1
   rw [hd,h2,show ((a:Int) + ((uvI (gi r).1).length:Int))=((a + (uvI (gi r).1).length:Nat):Int) by omega] at h |-
   obtain ⟨l,t,g1,g2,g3,g4⟩:=getsI_can n q _ _ h
   refine ⟨(gi r).1 :: l,t,by rw [g1,List.append_assoc];rfl,by rw [List.length_cons,g2],?_,?_⟩
   ·rw [List.flatMap_cons,List.append_assoc,<- g3];exact h1
   ·rw [g4,List.flatMap_cons,List.length_append,Nat.add_assoc]
theorem gints_can {s:Str} (h:(gints s).2.2=0):∃ t,s=encI (gints s).1 ++ t/\(gints s).2.1=((encI (gints s).1).length:Int):=by
 unfold gints at *
 by_cases h1:(lenW s).2.2 ≠ 0
 ·rw [if_pos h1] at h;exact absurd h h1
 ·rw [if_neg h1] at h |-
  obtain ⟨r,g1,g2⟩:=lenW_can (show (lenW s).2.2=0 by omega)
  rcases lenW_ok s with ⟨_,n,u,k1,k2,k3⟩ | ⟨_,_,k⟩
  ·have e1:(lenW s).1=(n:Int):=by rw [k1]
   have hd:s.drop (lenW s).2.1.toNat=r:=by
    rw [g2,Int.toNat_natCast]
    exact drop_of g1
   rw [hd,g2,e1,Int.toNat_natCast] at h |-
   obtain ⟨l,t,j1,j2,j3,j4⟩:=getsI_can n r _ _ h
   rw [List.nil_append] at j1
   refine ⟨t,?_,?_⟩
   ·rw [j1];unfold encI;rw [j2,<- e1,List.append_assoc,<- j3];exact g1
   ·rw [j4,j1];unfold encI;rw [j2,List.length_append]
  ·omega
theorem gbytes_can {s:Str} (h:(gbytes s).2.2=0):∃ r,s=encB (gbytes s).1 ++ r/\(gbytes s).2.1=((encB (gbytes s).1).length:Int):=by
 unfold gbytes at *
 by_cases h1:(lenW s).2.2 ≠ 0
 ·rw [if_pos h1] at h;exact absurd h h1
 ·rw [if_neg h1]
  obtain ⟨r,g1,g2⟩:=lenW_can (show (lenW s).2.2=0 by omega)
  rcases lenW_ok s with ⟨_,n,u,k1,k2,k3⟩ | ⟨_,_,k⟩
  ·have e1:(lenW s).1=(n:Int):=by rw [k1]
   have hd:s.drop (lenW s).2.1.toNat=r:=by
    rw [g2,Int.toNat_natCast]
    exact drop_of g1
   have hl:s.length=(uvI (n:Int)).length + r.length:=by
    have:=congrArg List.length g1
    rwa [List.length_append,e1] at this
   have hu:u=(uvI (n:Int)).length:=by
    have:(lenW s).2.1=(u:Int):=by rw [k1]
    rw [e1] at g2;omega
   rw [hd,e1,Int.toNat_natCast]
   have ln:(r.take n).length=n:=by rw [List.length_take];omega
   refine ⟨r.drop n,?_,?_⟩
   ·dsimp only
    unfold encB
    rw [ln,<- e1,List.append_assoc,List.take_append_drop];exact g1
   ·dsimp only
    unfold encB
    rw [ln,g2,e1,List.length_append,ln];omega
  ·omega
theorem getsS_can:∀ (n:Nat) (r:Str) (a:Nat) (acc:List Str),(getsS n r (a:Int) acc).2.2=0->∃ l t,(getsS n r (a:Int) acc).1=acc ++ l/\l.length=n/\r=l.flatMap encB ++ t/\(getsS n r (a:Int) acc).2.1=((a + (l.flatMap encB).length:Nat):Int)
 | 0,r,a,acc,h=>⟨[],r,by rw [List.append_nil];rfl,rfl,rfl,rfl⟩
 | n + 1,r,a,acc,h=>by
  rw [getsS] at h |-
  by_cases he:(gbytes r).2.2 ≠ 0
  ·rw [if_pos he] at h;exact absurd h he
  ·rw [if_neg he] at h |-
   obtain ⟨q,h1,h2⟩:=gbytes_can (show (gbytes r).2.2=0 by omega)
   have hd:r.drop (gbytes r).2.1.toNat=q:=by
    rw [h2,Int.toNat_natCast]
    exact drop_of h1
   rw [hd,h2,show ((a:Int) + ((encB (gbytes r).1).length:Int))=((a + (encB (gbytes r).1).length:Nat):Int) by omega] at h |-
   obtain ⟨l,t,g1,g2,g3,g4⟩:=getsS_can n q _ _ h
   refine ⟨(gbytes r).1 :: l,t,by rw [g1,List.append_assoc];rfl,by rw [List.length_cons,g2],?_,?_⟩
   ·rw [List.flatMap_cons,List.append_assoc,<- g3];exact h1
   ·rw [g4,List.flatMap_cons,List.length_append,Nat.add_assoc]
theorem gstrs_can {s:Str} (h:(gstrs s).2.2=0):∃ t,s=encS (gstrs s).1 ++ t/\(gstrs s).2.1=((encS (gstrs s).1).length:Int):=by
 unfold gstrs at *
 by_cases h1:(lenW s).2.2 ≠ 0
 ·rw [if_pos h1] at h;exact absurd h h1
 ·rw [if_neg h1] at h |-
  obtain ⟨r,g1,g2⟩:=lenW_can (show (lenW s).2.2=0 by omega)
  rcases lenW_ok s with ⟨_,n,u,k1,k2,k3⟩ | ⟨_,_,k⟩
  ·have e1:(lenW s).1=(n:Int):=by rw [k1]
   have hd:s.drop (lenW s).2.1.toNat=r:=by
    rw [g2,Int.toNat_natCast]
    exact drop_of g1
   rw [hd,g2,e1,Int.toNat_natCast] at h |-
   obtain ⟨l,t,j1,j2,j3,j4⟩:=getsS_can n r _ _ h
   rw [List.nil_append] at j1
   refine ⟨t,?_,?_⟩
   ·rw [j1];unfold encS;rw [j2,<- e1,List.append_assoc,<- j3];exact g1
   ·rw [j4,j1];unfold encS;rw [j2,List.length_append]
  ·omega
theorem hd_can {s:Str} {k:Int} {c:Nat} {more:Bool} {v:List Int × List Str} (h:hd s k c more=some v):v.1.length=c/\v.1.getD 0 0=k/\s=encI v.1 ++ (if more then encS v.2 else []):=by
 unfold hd at h
 split at h
 ·rename_i hh
  obtain ⟨e,hl,hk⟩:=hh
  obtain ⟨t,g1,g2⟩:=gints_can e
  have hdr:s.drop (gints s).2.1.toNat=t:=by
   rw [g2,Int.toNat_natCast]
   exact drop_of g1
  have hsl:s.length=(encI (gints s).1).length + t.length:=by
   have:=congrArg List.length g1
   rwa [List.length_append] at this
  split at h
  ·rename_i hm
   split at h
   ·rename_i hh
    cases h
    rw [hdr] at hh |-
    obtain ⟨t',j1,j2⟩:=gstrs_can hh.1
    have:t'=[]:=by
     apply List.eq_nil_of_length_eq_zero
     have:=congrArg List.length j1
     rw [List.length_append] at this
     have:=hh.2
     omega
    subst this
    rw [List.append_nil] at j1
    refine ⟨hl,hk,?_⟩
    rw [hm,if_pos rfl]
    dsimp only
    rw [<- j1];exact g1
   ·cases h
  ·rename_i hm
   split at h
   ·rename_i hh
    cases h
    have:t=[]:=by
     apply List.eq_nil_of_length_eq_zero
     omega
    subst this
    refine ⟨hl,hk,?_⟩
    rw [if_neg hm]
    exact g1
   ·cases h
 ·cases h
theorem list7 {l:List Int} (h:l.length=7):l=[l.getD 0 0,l.getD 1 0,l.getD 2 0,l.getD 3 0,l.getD 4 0,l.getD 5 0,l.getD 6 0]:=by
 match l,h with
 | [a,b,c,d,e,f,g],_=>rfl
theorem list8 {l:List Int} (h:l.length=8):l=[l.getD 0 0,l.getD 1 0,l.getD 2 0,l.getD 3 0,l.getD 4 0,l.getD 5 0,l.getD 6 0,l.getD 7 0]:=by
 match l,h with
 | [a,b,c,d,e,f,g,i],_=>rfl
theorem list6 {l:List Int} (h:l.length=6):l=[l.getD 0 0,l.getD 1 0,l.getD 2 0,l.getD 3 0,l.getD 4 0,l.getD 5 0]:=by
 match l,h with
 | [a,b,c,d,e,f],_=>rfl
theorem grd_can {s:Str} (h:(grd s).2=0):s=encR (grd s).1/\okR (grd s).1:=by
 unfold grd at *
 cases hh:hd s 1 7 false with
 | none=>rw [hh] at h;cases h
 | some v =>
  obtain ⟨h1,h2,h3⟩:=hd_can hh
  have hI:=(hd_ok hh).2.1
  dsimp only
  have e:v.1=rl ((v.1.getD 1 0,(v.1.getD 2 0,(v.1.getD 3 0,(v.1.getD 4 0,(v.1.getD 5 0,v.1.getD 6 0)))))):=by
   have:=list7 h1
   rw [h2] at this
   exact this
  refine ⟨?_,?_⟩
  ·unfold encR
   rw [<- e,h3]
   simp
  ·unfold okR
   rw [<- e];exact hI
theorem grd_e (s:Str):(grd s).2=0\/grd s=((0,(0,(0,(0,(0,0))))),11):=by
 unfold grd
 cases hd s 1 7 false with
 | none=>exact .inr rfl
 | some v=>exact .inl rfl
theorem one_can {s:Str} {n:Int} (h:one s=some n):s=uvI n/\I64 n:=by
 unfold one at h
 split at h
 ·rename_i hh
  cases h
  obtain ⟨r,g1,g2⟩:=gi_can hh.1
  have:r=[]:=by
   apply List.eq_nil_of_length_eq_zero
   have:=congrArg List.length g1
   rw [List.length_append] at this
   have:=hh.2
   omega
  subst this
  rw [List.append_nil] at g1
  rcases gi_ok s with ⟨_,u,_,_,_,_,h5⟩ | ⟨_,_,h3⟩
  ·exact ⟨g1,h5⟩
  ·have:=hh.1;omega
 ·cases h
theorem pts_can:∀ (k:Nat) (p:List Str) (acc L:List Pt),p.length=4 * k->pts p acc=some L->∃ M,L=acc ++ M/\p=M.flatMap prt/\(∀ q ∈ M,I64 q.1)/\∀ q ∈ M,q.2.2.1 ∈ p/\q.2.2.2 ∈ p
 | 0,p,acc,L,hp,h=>by
  have:p=[]:=List.length_eq_zero_iff.1 (by omega)
  subst this
  cases h
  exact ⟨[],by simp,rfl,⟨fun q hq=>(List.not_mem_nil hq).elim,fun q hq=>(List.not_mem_nil hq).elim⟩⟩
 | k + 1,p,acc,L,hp,h=>by
  obtain ⟨a,b,c,d,r,rfl⟩:∃ a b c d r,p=a :: b :: c :: d :: r:=by
   match p,hp with
   | a :: b :: c :: d :: r,_=>exact ⟨a,b,c,d,r,rfl⟩
   | [],h=>simp at h
   | [_],h=>simp at h;omega
   | [_,_],h=>simp at h;omega
   | [_,_,_],h=>simp at h;omega
  have hr:r.length=4 * k:=by simp only [List.length_cons] at hp;omega
  rw [pts] at h
  cases ha:one a with
  | none=>rw [ha] at h;cases h
  | some st =>
   cases hb:one b with
   | none=>rw [ha,hb] at h;cases h
   | some ng =>
    rw [ha,hb] at h
    dsimp only at h
    split at h
    ·rename_i h01
     obtain ⟨M,g1,g2,g3,g4⟩:=pts_can k r _ L hr h
     obtain ⟨ea,ia⟩:=one_can ha
     obtain ⟨eb,ib⟩:=one_can hb
     refine ⟨(st,(ng == 1,(c,d))) :: M,by rw [g1,List.append_assoc];rfl,?_,?_,?_⟩
     ·rw [List.flatMap_cons,<- g2]
      have:sgb (ng == 1)=ng:=by rcases h01 with rfl | rfl <;> rfl
      show _=uvI st :: uvI (sgb (ng == 1)) :: c :: d :: r
      rw [this,ea,eb]
     ·intro q hq
      rcases List.mem_cons.1 hq with rfl | hq
      ·exact ia
      ·exact g3 q hq
     ·intro q hq
      rcases List.mem_cons.1 hq with rfl | hq
      ·exact ⟨by simp,by simp⟩
      ·have:=g4 q hq
       exact ⟨by simp [this.1],by simp [this.2]⟩
    ·cases h
theorem gvr_e (s:Str):(gvr s).2=0\/gvr s=(vz,11):=by
 unfold gvr
 cases hd s 2 8 true with
 | none=>exact .inr rfl
 | some v =>
  dsimp only
  split
  ·split
   ·exact .inr rfl
   ·exact .inl rfl
  ·exact .inr rfl
theorem gvr_can {s:Str} (hs:s.length <= 4000) (h:(gvr s).2=0):s=encV (gvr s).1/\okV (gvr s).1:=by
 unfold gvr at *
 cases hh:hd s 2 8 true with
 | none=>rw [hh] at h;cases h
 | some v =>
  rw [hh] at h
  obtain ⟨h1,h2,h3⟩:=hd_can hh
  obtain ⟨_,hI,hn,hp⟩:=hd_ok hh
  dsimp only at h |-
  split at h
  ·rename_i h4
   rw [if_pos h4]
   split at h
   ·cases h
   ·rename_i L hL
    dsimp only
    obtain ⟨M,g1,g2,g3,g4⟩:=pts_can (v.2.length / 4) v.2 [] L (by omega) hL
    rw [List.nil_append] at g1
    subst g1
    have e:vl (vD v.1 L)=v.1:=by
     have:=list8 h1
     rw [h2] at this
     exact this.symm
    have lM:4 * L.length=v.2.length:=by rw [g2,prt_len]
    refine ⟨?_,⟨by rw [e];exact hI,by show L.length <= _;omega,fun q hq=>?_⟩⟩
    ·unfold encV
     rw [e,show vp (vD v.1 L)=L from rfl,<- g2]
     simpa using h3
    ·have hq:q ∈ L:=hq
     have:=g4 q hq
     have:=hp _ this.1
     have:=hp _ (g4 q hq).2
     exact ⟨g3 q hq,by omega,by omega⟩
  ·cases h
end Go.Proofs.Tryz

set_option maxRecDepth 8000
set_option linter.all false
set_option synthInstance.maxSize 100000
set_option synthInstance.maxHeartbeats 400000
namespace Go.Proofs.Tryz
open Go.Eng Go.RowKit Go.Lib
abbrev Hl:=Int × Int
abbrev Rn:=Int × (Int × (List Hl × (Int × Int)))
abbrev Bk:=Int × (Int × (Int × (Int × (Int × List Rn))))
def tbl:List Int->List Hl->List Hl
 | a :: b :: r,acc=>tbl r (acc ++ [(a,b)])
 | _,acc=>acc
def rnD (l:List Int):Rn:=(l.getD 0 0,(l.getD 1 0,(tbl (l.drop 4) [],(l.getD 2 0,l.getD 3 0))))
def runs:List Str->List Rn->Option (List Rn)
 | [],acc=>some acc
 | p :: r,acc=>if (gints p).2.2=0/\(gints p).2.1=(p.length:Int)/\4 <= (gints p).1.length/\(gints p).1.length % 2=0 then
   runs r (acc ++ [rnD (gints p).1]) else none
def bkz:Bk:=(0,(0,(0,(0,(0,[])))))
def bkD (l:List Int) (r:List Rn):Bk:=(l.getD 1 0,(l.getD 2 0,(l.getD 3 0,(l.getD 4 0,(l.getD 5 0,r)))))
def gbl (s:Str):Bk × Int :=
 match hd s 3 6 true with
 | none=>(bkz,11)
 | some v=>match runs v.2 [] with
  | none=>(bkz,11)
  | some l=>(bkD v.1 l,0)
abbrev brs (b:Bk):List Rn:=b.2.2.2.2.2
def hlI (h:Hl):List Int:=[h.1,h.2]
def rnI (r:Rn):List Int:=[r.1,r.2.1,r.2.2.2.1,r.2.2.2.2] ++ r.2.2.1.flatMap hlI
def bl (b:Bk):List Int:=[3,b.1,b.2.1,b.2.2.1,b.2.2.2.1,b.2.2.2.2.1]
def encK (b:Bk):Str:=encI (bl b) ++ encS ((brs b).map fun r=>encI (rnI r))
def okK (b:Bk):Prop:=(∀ x ∈ bl b,I64 x)/\(brs b).length <= 1000/\∀ r ∈ brs b,r.2.2.1.length <= 1000/\∀ x ∈ rnI r,I64 x
theorem hlI_len (l:List Hl):(l.flatMap hlI).length=2 * l.length:=by
 induction l with
 | nil=>rfl
 | cons x l ih=>rw [List.flatMap_cons,List.length_append,ih,List.length_cons];show 2 + _=_;omega
theorem rnI_len (r:Rn):(rnI r).length=4 + 2 * r.2.2.1.length:=by
 unfold rnI;rw [List.length_append,hlI_len];rfl
theorem tbl_enc:∀ (l acc:List Hl),tbl (l.flatMap hlI) acc=acc ++ l
 | [],acc=>by rw [List.append_nil];rfl
 | x :: l,acc=>by
  rw [List.flatMap_cons]
  show tbl (x.1 :: x.2 :: l.flatMap hlI) acc=_
  rw [tbl,tbl_enc l,List.append_assoc];rfl
theorem tbl_can:∀ (k:Nat) (l:List Int) (acc:List Hl),l.length=2 * k->∃ M,tbl l acc=acc ++ M/\l=M.flatMap hlI
 | 0,l,acc,h=>by
  have:l=[]:=List.length_eq_zero_iff.1 (by omega)
  subst this
  exact ⟨[],by simp [tbl],rfl⟩
 | k + 1,l,acc,h=>by
  obtain ⟨a,b,r,rfl⟩:∃ a b r,l=a :: b :: r:=by
   match l,h with
   | a :: b :: r,_=>exact ⟨a,b,r,rfl⟩
   | [],h=>simp at h
   | [_],h=>simp at h;omega
  obtain ⟨M,g1,g2⟩:=tbl_can k r (acc ++ [(a,b)]) (by simp only [List.length_cons] at h;omega)
  refine ⟨(a,b) :: M,by rw [tbl,g1,List.append_assoc];rfl,?_⟩
  rw [List.flatMap_cons,<- g2];rfl
theorem rnI_D {l:List Int} (h4:4 <= l.length) (h2:l.length % 2=0):rnI (rnD l)=l:=by
 obtain ⟨a,b,c,d,r,rfl⟩:∃ a b c d r,l=a :: b :: c :: d :: r:=by
  match l,h4 with
  | a :: b :: c :: d :: r,_=>exact ⟨a,b,c,d,r,rfl⟩
  | [],h=>simp at h
  | [_],h=>simp at h
  | [_,_],h=>simp at h
  | [_,_,_],h=>simp at h
 obtain ⟨M,g1,g2⟩:=tbl_can (r.length / 2) r [] (by simp only [List.length_cons] at h2;omega)
 show [a,b,c,d] ++ (tbl r []).flatMap hlI=_
 rw [g1,List.nil_append,<- g2];rfl
theorem rnD_I (r:Rn):rnD (rnI r)=r:=by
 obtain ⟨a,b,t,c,d⟩:=r
 show (a,(b,(tbl (t.flatMap hlI) [],(c,d))))=_
 rw [tbl_enc,List.nil_append]
theorem runs_enc:∀ (l acc:List Rn),(∀ r ∈ l,r.2.2.1.length <= 1000/\∀ x ∈ rnI r,I64 x)->runs (l.map fun r=>encI (rnI r)) acc=some (acc ++ l)
 | [],acc,_=>by rw [List.append_nil];rfl
 | r :: l,acc,h=>by
  obtain ⟨h1,h2⟩:=h r (by simp)
  rw [List.map_cons,runs]
  have:=gints_enc h2 (by rw [rnI_len];omega) []
  rw [List.append_nil] at this
  rw [this,if_pos ⟨rfl,rfl,by rw [rnI_len];omega,by rw [rnI_len];omega⟩,rnD_I,runs_enc l _ (fun q hq=>h q (by simp [hq])),List.append_assoc]
  rfl
theorem gbl_enc {b:Bk} (h:okK b):gbl (encK b)=(b,0):=by
 obtain ⟨h1,h2,h3⟩:=h
 unfold gbl encK
 have hp:∀ x ∈ (brs b).map fun r=>encI (rnI r),x.length <= 1000000:=fun x hx=>by
  obtain ⟨r,hr,rfl⟩:=List.mem_map.1 hx
  have:=encI_le (h3 r hr).2 (by rw [rnI_len];have:=(h3 r hr).1;omega)
  rw [rnI_len] at this
  have:=(h3 r hr).1
  omega
 rw [hd_true h1 (by show 6 <= _;omega) hp (by rw [List.length_map];omega) 3 6 rfl rfl]
 simp only
 rw [runs_enc _ [] h3]
 rfl
theorem gbl_e (s:Str):(gbl s).2=0\/gbl s=(bkz,11):=by
 unfold gbl
 cases hd s 3 6 true with
 | none=>exact .inr rfl
 | some v =>
  dsimp only
  cases runs v.2 [] with
  | none=>exact .inr rfl
  | some l=>exact .inl rfl
theorem runs_can:∀ (p:List Str) (acc L:List Rn),runs p acc=some L->∃ M,L=acc ++ M/\p=M.map (fun r=>encI (rnI r))/\∀ r ∈ M,2 * r.2.2.1.length <= (encI (rnI r)).length/\∀ x ∈ rnI r,I64 x
 | [],acc,L,h=>by
  cases h
  exact ⟨[],by simp,rfl,fun q hq=>(List.not_mem_nil hq).elim⟩
 | q :: p,acc,L,h=>by
  rw [runs] at h
  split at h
  ·rename_i hh
   obtain ⟨e,h1,h2,h3⟩:=hh
   obtain ⟨M,g1,g2,g3⟩:=runs_can p _ L h
   obtain ⟨t,j1,j2⟩:=gints_can e
   have:t=[]:=by
    apply List.eq_nil_of_length_eq_zero
    have:=congrArg List.length j1
    rw [List.length_append] at this
    omega
   subst this
   rw [List.append_nil] at j1
   have hI:∀ x ∈ (gints q).1,I64 x:=by
    rcases gints_ok q with ⟨_,u,_,_,_,h⟩ | h
    ·exact h
    ·exact absurd e h
   refine ⟨rnD (gints q).1 :: M,by rw [g1,List.append_assoc];rfl,?_,?_⟩
   ·rw [List.map_cons,rnI_D h2 h3,<- j1,<- g2]
   ·intro r hr
    rcases List.mem_cons.1 hr with rfl | hr
    ·rw [rnI_D h2 h3]
     refine ⟨?_,hI⟩
     have l1:(gints q).1.length=4 + 2 * (rnD (gints q).1).2.2.1.length:=by
      have:=rnI_len (rnD (gints q).1)
      rwa [rnI_D h2 h3] at this
     have l2:=flat_len uvI (gints q).1 fun x hx=>(uvI_len (hI x hx)).1
     unfold encI
     rw [List.length_append]
     omega
    ·exact g3 r hr
  ·cases h
theorem gbl_can {s:Str} (hs:s.length <= 1000) (h:(gbl s).2=0):s=encK (gbl s).1/\okK (gbl s).1:=by
 unfold gbl at *
 cases hh:hd s 3 6 true with
 | none=>rw [hh] at h;cases h
 | some v =>
  rw [hh] at h
  obtain ⟨h1,h2,h3⟩:=hd_can hh
  obtain ⟨_,hI,hn,hp⟩:=hd_ok hh
  dsimp only at h |-
  cases hL:runs v.2 [] with
  | none=>rw [hL] at h;cases h
  | some L =>
   obtain ⟨M,g1,g2,g3⟩:=runs_can v.2 [] L hL
   rw [List.nil_append] at g1
   subst g1
   dsimp only
   have e:bl (bkD v.1 L)=v.1:=by
    have:=list6 h1
    rw [h2] at this
    exact this.symm
   refine ⟨?_,⟨by rw [e];exact hI,?_,fun q hq=>?_⟩⟩
   ·unfold encK
    rw [e,show brs (bkD v.1 L)=L from rfl,<- g2]
    simpa using h3
   ·have:v.2.length=L.length:=by rw [g2,List.length_map]
    show L.length <= _
    omega
   ·have hq:q ∈ L:=hq
    refine ⟨?_,(g3 q hq).2⟩
    have:=(g3 q hq).1
    have:=hp (encI (rnI q)) (by rw [g2];exact List.mem_map.2 ⟨q,hq,rfl⟩)
    omega
end Go.Proofs.Tryz

set_option maxRecDepth 8000
set_option linter.all false
set_option synthInstance.maxSize 100000
set_option synthInstance.maxHeartbeats 400000
namespace Go.Proofs.Tryz
open Go.Eng Go.RowKit Go.Lib
theorem ri_s (m:Nat):L_ref01_Int_0 (m + 1)=B_ref01_Int_0 (L_ref01_Int_0 m):=rfl
theorem rint_loop:∀ (k z m:Nat) (a:List Int),z < 128 ^ (k + 1)->z < 18446744073709551616->k < m->a.length + k < 1000000->L_ref01_Int_0 m (z:Int) a=some (a ++ intsS (uvarint z))
 | k,z,0,a,_,_,h,_=>by omega
 | k,z,m + 1,a,hz,hz2,hm,hal=>by
  rw [ri_s]
  unfold B_ref01_Int_0
  by_cases h:128 <= z
  ·obtain ⟨k',rfl⟩:∃ k',k=k' + 1:=⟨k - 1,by cases k with
    | zero=>have:128 ^ (0 + 1)=128:=rfl;omega
    | succ k=>rfl⟩
   have e0:Int.tmod (z:Int) 128=((z % 128:Nat):Int):=by rw [show (128:Int)=((128:Nat):Int) from rfl,<- Int.ofNat_tmod]
   have e1:IntKind.wrap .u8 ((IntKind.wrap .u8 (Int.tmod (z:Int) 128)) + 128)=((z % 128 + 128:Nat):Int):=by
    rw [e0,q8,show (((z % 128 % 256:Nat):Int) + 128)=((z % 128 % 256 + 128:Nat):Int) by omega,q8];omega
   have e4:IntKind.wrap .u64 (Int.tdiv (z:Int) 128)=((z / 128:Nat):Int):=by
    rw [show (128:Int)=((128:Nat):Int) from rfl,<- Int.ofNat_tdiv,q64 (by omega) (by omega)]
   rw [e1,e4,q_ift (decide_eq_true (by omega)),q_gl,q_gdT (by simp only [List.length_cons,List.length_nil];omega),q_gl]
   rw [rint_loop k' (z / 128) m (a ++ [((z % 128 + 128:Nat):Int)]) (by have:128 ^ (k' + 1 + 1)=128 ^ (k' + 1) * 128:=rfl;omega) (by omega) (by omega) (by simp only [List.length_append,List.length_cons,List.length_nil];omega),uvarint_big h,List.append_assoc]
   refine congrArg (fun l=>some (a ++ l)) ?_
   show _ :: intsS (uvarint (z / 128))=(((z % 128 + 128).toUInt8.toNat:Nat):Int) :: intsS (uvarint (z / 128))
   rw [show (z % 128 + 128).toUInt8.toNat=z % 128 + 128 by
    show (z % 128 + 128) % 256=_;omega]
  ·rw [q_iff (decide_eq_false (by omega)),q_gl,q_gdT (by simp only [List.length_cons,List.length_nil];omega),q_gl,q8,uvarint_small (by omega)]
   refine congrArg (fun l=>some (a ++ l)) ?_
   show [((z % 256:Nat):Int)]=[((z.toUInt8.toNat:Nat):Int)]
   rw [show z.toUInt8.toNat=z % 256 from rfl]
theorem rInt {N:Nat} {n:Int} (hN:20 <= N) (hn:I64 n):G_ref01_Int N n=some (intsS (uvI n)):=by
 have hz:=zig_lt hn
 obtain ⟨h1,h2⟩:=hn
 have w:∀ x:Int,IntKind.wrap .u64 x=x % 18446744073709551616:=fun x=>IntKind.wrap_u64 x
 have fin:∀ x:Int,x=((zigzag n:Nat):Int)->L_ref01_Int_0 N x []=some (intsS (uvI n)):=fun x hx=>by
  subst hx
  rw [rint_loop 9 (zigzag n) N [] (by have:128 ^ (9 + 1)=1180591620717411303424:=rfl;omega) hz (by omega) (by simp),List.nil_append]
  rfl
 unfold G_ref01_Int
 by_cases h:n < 0
 ·rw [q_ift (decide_eq_true h),q_ck (by omega) (by omega),q_bd]
  refine fin _ ?_
  rw [w,w,w]
  unfold zigzag
  rw [if_neg (by omega)]
  omega
 ·rw [q_iff (decide_eq_false h),q_bd]
  refine fin _ ?_
  rw [w,w]
  unfold zigzag
  rw [if_pos (by omega)]
  omega
theorem ris_s (N m:Nat):L_ref01_Ints_0 N (m + 1)=B_ref01_Ints_0 N (L_ref01_Ints_0 N m):=rfl
theorem rlint_loop {N:Nat} (hN:20 <= N) (l:List Int) (h:∀ x ∈ l,I64 x) (hl:l.length <= 100000):∀ (k i m:Nat) (acc:List Int),i + k=l.length->k < m->acc.length <= 10 + 10 * i->L_ref01_Ints_0 N m l (i:Int) acc=some (acc ++ intsS ((l.drop i).flatMap uvI))
 | k,i,0,acc,_,h,_=>by omega
 | 0,i,m + 1,acc,hi,_,_=>by
  rw [ris_s]
  unfold B_ref01_Ints_0
  rw [q_iff (decide_eq_false (by omega)),q_gl,List.drop_of_length_le (by omega)]
  exact congrArg some (List.append_nil acc).symm
 | k + 1,i,m + 1,acc,hi,hm,ha=>by
  have hlt:i < l.length:=by omega
  have hx:=h _ (List.getElem_mem hlt)
  have hu:=uvI_len hx
  rw [ris_s]
  unfold B_ref01_Ints_0
  rw [q_ift (decide_eq_true (by omega)),q_get (List.getElem?_eq_getElem hlt),rInt hN hx,q_bd,q_gl,q_gl,q_gdT (by rw [intsS_len];omega),q_ck (by omega) (by omega),q_gl,show ((i:Int) + 1)=((i + 1:Nat):Int) by omega,rlint_loop hN l h hl k (i + 1) m _ (by omega) (by omega) (by rw [List.length_append,intsS_len];omega),get_drop hlt,List.flatMap_cons,intsS_app,List.append_assoc]
theorem rnumbers {N:Nat} (hN:20 <= N) (l:List Int) (h:∀ x ∈ l,I64 x) (hl:l.length < N) (hb:l.length <= 100000):G_ref23_numbers N l=some (encI l):=by
 unfold G_ref23_numbers G_ref01_Ints
 rw [rInt hN (nat_I64 (by omega)),q_bd,q_gl]
 have hu:=uvI_len (nat_I64 (show l.length <= 1000000 by omega))
 have:=rlint_loop hN l h hb l.length 0 N (intsS (uvI (l.length:Int))) (by omega) hl (by rw [intsS_len];omega)
 rw [show (((0:Nat):Int))=0 from rfl] at this
 rw [this,q_bd,q_gl,List.drop_zero,<- intsS_app,bytesI_ints]
 rfl
theorem rnumber {N:Nat} (hN:20 <= N) {n:Int} (h:I64 n):G_ref23_number N n=some (uvI n):=by
 unfold G_ref23_number
 rw [rInt hN h,q_bd,q_gl,bytesI_ints]
theorem rBytes {N:Nat} (hN:20 <= N) (s:Str) (hs:s.length <= 1000000):G_ref01_Bytes N s=some (intsS (encB s)):=by
 unfold G_ref01_Bytes
 have hu:=uvI_len (nat_I64 hs)
 rw [rInt hN (nat_I64 hs),q_bd,q_gl,q_gdT (by rw [intsS_len,intsS_len];omega),q_gl,<- intsS_app]
 rfl
theorem rss_s (N m:Nat):L_ref01_Strings_0 N (m + 1)=B_ref01_Strings_0 N (L_ref01_Strings_0 N m):=rfl
theorem rlstr_loop {N:Nat} (hN:20 <= N) (l:List Str) (h:∀ x ∈ l,x.length <= 100000) (hl:l.length <= 100000):∀ (k i m:Nat) (acc:List Int),i + k=l.length->k < m->acc.length <= 10 + 200000 * i->L_ref01_Strings_0 N m l (i:Int) acc=some (acc ++ intsS ((l.drop i).flatMap encB))
 | k,i,0,acc,_,h,_=>by omega
 | 0,i,m + 1,acc,hi,_,_=>by
  rw [rss_s]
  unfold B_ref01_Strings_0
  rw [q_iff (decide_eq_false (by omega)),q_gl,List.drop_of_length_le (by omega)]
  exact congrArg some (List.append_nil acc).symm
 | k + 1,i,m + 1,acc,hi,hm,ha=>by
  have hlt:i < l.length:=by omega
  have hx:=h _ (List.getElem_mem hlt)
  have hu:(encB l[i]).length <= 200000:=by
   unfold encB
   have:=(uvI_len (nat_I64 (show (l[i]).length <= 1000000 by omega))).2
   rw [List.length_append];omega
  rw [rss_s]
  unfold B_ref01_Strings_0
  rw [q_ift (decide_eq_true (by omega)),q_get (List.getElem?_eq_getElem hlt),rBytes hN _ (by omega),q_bd,q_gl,q_gl,q_gdT (by rw [intsS_len];omega),q_ck (by omega) (by omega),q_gl,show ((i:Int) + 1)=((i + 1:Nat):Int) by omega,rlstr_loop hN l h hl k (i + 1) m _ (by omega) (by omega) (by rw [List.length_append,intsS_len];omega),get_drop hlt,List.flatMap_cons,intsS_app,List.append_assoc]
theorem rStrings {N:Nat} (hN:20 <= N) (l:List Str) (h:∀ x ∈ l,x.length <= 100000) (hl:l.length < N) (hb:l.length <= 100000):G_ref01_Strings N l=some (intsS (encS l)):=by
 unfold G_ref01_Strings
 rw [rInt hN (nat_I64 (by omega)),q_bd,q_gl]
 have hu:=uvI_len (nat_I64 (show l.length <= 1000000 by omega))
 have:=rlstr_loop hN l h hb l.length 0 N (intsS (uvI (l.length:Int))) (by omega) hl (by rw [intsS_len];omega)
 rw [show (((0:Nat):Int))=0 from rfl] at this
 rw [this,List.drop_zero,<- intsS_app]
 rfl
theorem rReading {N:Nat} (hN:20 <= N) {r:Rd} (h:okR r):G_ref23_Reading N r=some (encR r):=by
 unfold G_ref23_Reading
 rw [show [1,r.1,r.2.1,r.2.2.1,r.2.2.2.1,r.2.2.2.2.1,r.2.2.2.2.2]=rl r from rfl,rnumbers hN _ h (by show 7 < N;omega) (by show 7 <= _;omega),q_bd]
 rfl
theorem rsign (N:Nat) (b:Bool):G_ref23_sign N b=some (sgb b):=by cases b <;> rfl
theorem rv_s (N m:Nat):L_ref23_Version_0 N (m + 1)=B_ref23_Version_0 N (L_ref23_Version_0 N m):=rfl
theorem rvwr_loop {N:Nat} (hN:20 <= N) (v:Vr) (hv:okV v) (hl:4 * (vp v).length < N):∀ (k i m:Nat),i + k=(vp v).length->k < m->L_ref23_Version_0 N m (i:Int) v.1 v.2.1 v.2.2.1 v.2.2.2.1 v.2.2.2.2.1 v.2.2.2.2.2.1 v.2.2.2.2.2.2.1 (vp v) (((vp v).take i).flatMap prt)=some (encV v)
 | k,i,0,_,h=>by omega
 | 0,i,m + 1,hi,_=>by
  obtain ⟨h1,h2,h3⟩:=hv
  rw [rv_s]
  unfold B_ref23_Version_0
  rw [q_iff (decide_eq_false (by omega)),List.take_of_length_le (by omega)]
  have e:=rnumbers hN (vl v) h1 (by show 8 < N;omega) (by show 8 <= _;omega)
  show bd? (G_ref23_numbers N (vl v)) _=_
  have hs:=prt_ok h3
  rw [e,q_bd,q_gl,rStrings hN _ (fun x hx=>by have:=hs x hx;omega) (by rw [prt_len];omega) (by rw [prt_len];omega),q_bd,q_gl,bytesI_ints]
  refine q_gdT ?_
  have a1:=encI_le h1 (by show 8 <= _;omega)
  have a2:=encS_le (by omega) hs (by rw [prt_len];omega)
  have h9:(vl v).length=8:=rfl
  rw [prt_len] at a2
  have a3:(50000 + 10) * (4 * (vp v).length) <= 50010 * 4000:=Nat.mul_le_mul_left _ (by omega)
  omega
 | k + 1,i,m + 1,hi,hm=>by
  have hlt:i < (vp v).length:=by omega
  obtain ⟨h1,h2,h3⟩:=hv
  obtain ⟨g1,g2,g3⟩:=h3 _ (List.getElem_mem hlt)
  have hlen:(((vp v).take i).flatMap prt).length <= 4000:=by rw [prt_len,List.length_take];omega
  have ih:=rvwr_loop hN v ⟨h1,h2,h3⟩ hl k (i + 1) m (by omega) (by omega)
  rw [take_next _ _ hlt,List.flatMap_append] at ih
  have e:([(vp v)[i]]:List Pt).flatMap prt=[uvI (vp v)[i].1,uvI (sgb (vp v)[i].2.1),(vp v)[i].2.2.1,(vp v)[i].2.2.2]:=by
   rw [List.flatMap_cons,List.flatMap_nil,List.append_nil];rfl
  rw [e] at ih
  rw [rv_s]
  unfold B_ref23_Version_0
  rw [q_ift (decide_eq_true (by omega)),q_get (List.getElem?_eq_getElem hlt),rnumber hN g1,q_bd,rsign,q_bd,rnumber hN (sg_I64 _),q_bd,q_gl,q_gdT (by simp only [List.length_cons,List.length_nil];omega),q_ck (by omega) (by omega),q_gl]
  exact ih
theorem rVersion {N:Nat} (hN:20 <= N) {v:Vr} (h:okV v) (hl:4 * (vp v).length < N):G_ref23_Version N v=some (encV v):=by
 unfold G_ref23_Version
 exact rvwr_loop hN v h hl (vp v).length 0 N (by omega) (by omega)
end Go.Proofs.Tryz

set_option maxRecDepth 8000
set_option linter.all false
set_option synthInstance.maxSize 100000
set_option synthInstance.maxHeartbeats 400000
namespace Go.Proofs.Tryz
open Go.Eng Go.RowKit Go.Lib
def vlo (s:Str):Nat->Nat
 | 0=>0
 | k + 1=>vlo s k + (s.getD k 0).toNat % 128 * 128 ^ k
theorem vlo_lt (s:Str):∀ k,vlo s k < 128 ^ k
 | 0=>by show 0 < 1;decide
 | k + 1=>by
  have h:=vlo_lt s k
  have h1:(s.getD k 0).toNat % 128 * 128 ^ k <= 127 * 128 ^ k:=Nat.mul_le_mul_right _ (by omega)
  show vlo s k + _ < 128 ^ k * 128
  omega
def fin0 (k y:Nat):Option (Int × (Int × Int)):=some (unz y,(((k + 1:Nat):Int),0))
theorem rg1_s (m:Nat):L_ref01_GetInt_1 (m + 1)=B_ref01_GetInt_1 (L_ref01_GetInt_1 m):=rfl
theorem getD_u8 (s:Str) {i:Nat} (h:i < s.length):(intsS s)[i]?=some (((s.getD i 0).toNat:Nat):Int):=by
 rw [intsS_get,List.getElem?_eq_getElem h,List.getD_eq_getElem?_getD,List.getElem?_eq_getElem h];rfl
theorem rgi_1 (s:Str) (K:Nat) (hK:K < s.length) (hK9:K <= 9):∀ (i m acc:Nat),i <= K + 1->i < m->acc * 128 ^ i + vlo s i < 18446744073709551616 ->
  L_ref01_GetInt_1 m (intsS s) (K:Int) (acc:Int) ((i:Int) - 1)=fin0 K (acc * 128 ^ i + vlo s i)
 | _,0,_,_,h,_=>absurd h (Nat.not_lt_zero _)
 | 0,m + 1,acc,_,_,hb=>by
  have hb:acc < 18446744073709551616:=by
   have:acc * 128 ^ 0 + vlo s 0=acc:=by
    rw [Nat.pow_zero,Nat.mul_one];rfl
   omega
  rw [rg1_s]
  unfold B_ref01_GetInt_1
  have e0:Int.tmod (acc:Int) 2=((acc % 2:Nat):Int):=by rw [show (2:Int)=((2:Nat):Int) from rfl,<- Int.ofNat_tmod]
  have e1:IntKind.wrap .u64 (Int.tdiv (acc:Int) 2)=((acc / 2:Nat):Int):=by rw [show (2:Int)=((2:Nat):Int) from rfl,<- Int.ofNat_tdiv,q64 (by omega) (by omega)]
  have e2:IntKind.wrap .i64 ((acc / 2:Nat):Int)=((acc / 2:Nat):Int):=q_wrap (by omega) (by omega)
  rw [q_iff (decide_eq_false (by omega)),e0,e1,e2]
  have e3:acc * 128 ^ 0 + vlo s 0=acc:=by rw [Nat.pow_zero,Nat.mul_one];rfl
  rw [e3]
  unfold fin0 unz
  by_cases h:acc % 2=1
  ·rw [q_ift (by rw [h];rfl),q_ck (by omega) (by omega),q_ck (by omega) (by omega),if_neg (by omega),show (-1:Int) - ((acc / 2:Nat):Int)=-((acc / 2:Nat):Int) - 1 by omega,show (K:Int) + 1=((K + 1:Nat):Int) by omega]
  ·have h0:acc % 2=0:=by omega
   rw [q_iff (by rw [h0];rfl),q_ck (by omega) (by omega),if_pos h0,show (K:Int) + 1=((K + 1:Nat):Int) by omega]
 | i + 1,m + 1,acc,hi,hm,hb=>by
  have hlt:i < s.length:=by omega
  have hg:=getD_u8 s hlt
  have hc:=(s.getD i 0).toNat_lt
  have e:acc * 128 ^ (i + 1) + vlo s (i + 1)=(acc * 128 + (s.getD i 0).toNat % 128) * 128 ^ i + vlo s i:=by
   show acc * (128 ^ i * 128) + (vlo s i + (s.getD i 0).toNat % 128 * 128 ^ i)=_
   rw [Nat.add_mul,Nat.mul_assoc acc 128,Nat.mul_comm 128 (128 ^ i)];omega
  rw [e] at hb |-
  generalize (s.getD i 0).toNat=c at *
  have p1:0 < 128 ^ i:=Nat.pow_pos (by decide)
  have hle:acc * 128 + c % 128 <= (acc * 128 + c % 128) * 128 ^ i:=Nat.le_mul_of_pos_right _ p1
  rw [rg1_s]
  unfold B_ref01_GetInt_1
  have e0:Int.tmod (c:Int) 128=((c % 128:Nat):Int):=by rw [show (128:Int)=((128:Nat):Int) from rfl,<- Int.ofNat_tmod]
  rw [show ((i + 1:Nat):Int) - 1=(i:Int) by omega,q_ift (decide_eq_true (by omega)),q_get hg,q_ck (by omega) (by omega),e0,q64 (x:=((c % 128:Nat):Int)) (by omega) (by omega),show (acc:Int) * 128=((acc * 128:Nat):Int) by omega,q64 (x:=((acc * 128:Nat):Int)) (by omega) (by omega),show ((acc * 128:Nat):Int) + ((c % 128:Nat):Int)=((acc * 128 + c % 128:Nat):Int) by omega,q64 (by omega) (by omega)]
  exact rgi_1 s K hK hK9 i m _ (by omega) (by omega) hb
theorem rg0_s (N m:Nat):L_ref01_GetInt_0 N (m + 1)=B_ref01_GetInt_0 N (L_ref01_GetInt_0 N m):=rfl
theorem rgi_0 {N:Nat} (hN:20 <= N) (s:Str):∀ (r:Str) (k m:Nat),s.drop k=r->k <= s.length->k <= 9->10 < m + k->L_ref01_GetInt_0 N m (intsS s) (k:Int)=some (giN k (vlo s k) r)
 | _,_,0,_,_,_,h=>by omega
 | [],k,m + 1,hr,hks,hk,hm=>by
  have:s.length <= k:=by
   have:=congrArg List.length hr
   rw [List.length_drop,List.length_nil] at this;omega
  rw [rg0_s]
  unfold B_ref01_GetInt_0
  rw [intsS_len,q_iff (decide_eq_false (by omega)),q_bd]
  dsimp only
  rw [q_if0,q_iff (by rw [beq_eq_false_iff_ne];omega),intsS_len]
  rw [q_ift (by rw [beq_iff_eq];omega)];rfl
 | c :: r,k,m + 1,hr,_,hk,hm=>by
  have hlen:k < s.length:=by
   have:=congrArg List.length hr
   rw [List.length_drop,List.length_cons] at this;omega
  have hc:s[k]=c:=by
   have:=congrArg (·[0]?) hr
   simp only [List.getElem?_drop,Nat.add_zero,List.getElem?_cons_zero] at this
   rw [List.getElem?_eq_getElem hlen] at this
   exact Option.some.inj this
  have hcD:s.getD k 0=c:=by rw [List.getD_eq_getElem?_getD,List.getElem?_eq_getElem hlen,hc];rfl
  have hr':s.drop (k + 1)=r:=by
   have:=congrArg List.tail hr
   rw [List.tail_drop] at this;exact this
  have hcl:=c.toNat_lt
  have hget:(intsS s)[k]?=some (c.toNat:Int):=by rw [intsS_get,List.getElem?_eq_getElem hlen,hc];rfl
  have hv:vlo s (k + 1)=vlo s k + c.toNat % 128 * 128 ^ k:=by
   show vlo s k + (s.getD k 0).toNat % 128 * 128 ^ k=_
   rw [hcD]
  rw [rg0_s,giN]
  unfold B_ref01_GetInt_0
  rw [intsS_len,q_ift (decide_eq_true (by omega)),q_ift (decide_eq_true (by omega)),q_get hget,q_bd]
  dsimp only
  by_cases h128:c.toNat < 128
  ·-- the last byte
   rw [q_iff (decide_eq_false (by omega)),q_iff (by rw [beq_eq_false_iff_ne];omega),intsS_len,q_iff (by rw [beq_eq_false_iff_ne];omega)]
   have fin:∀ x:Bool,x=decide ((k=9/\1 < c.toNat)\/(0 < k/\c.toNat=0))->(bd? (some (intsS s,(k:Int),x)) fun w10=>if? (w10.2.2) (some (((0:Int),((0:Int),(11:Int))))) (L_ref01_GetInt_1 N w10.1 w10.2.1 0 w10.2.1))=some (if (k=9/\1 < c.toNat)\/(0 < k/\c.toNat=0) then (0,0,11) else if c.toNat < 128 then (unz (vlo s k + c.toNat % 128 * 128 ^ k),((k + 1:Nat):Int),0) else giN (k + 1) (vlo s k + c.toNat % 128 * 128 ^ k) r):=by
    intro x hx
    subst hx
    rw [q_bd]
    dsimp only
    by_cases hb:(k=9/\1 < c.toNat)\/(0 < k/\c.toNat=0)
    ·rw [q_ift (decide_eq_true hb),if_pos hb]
    ·rw [q_iff (decide_eq_false hb),if_neg hb,if_pos h128]
     have hbd:=(zz_eq (vlo s k) k c.toNat (vlo_lt s k) hk (by omega) (by omega)).2.1
     have:=rgi_1 s k hlen hk (k + 1) N 0 (Nat.le_refl _) (by omega) (by rw [Nat.zero_mul,Nat.zero_add,hv];exact hbd)
     rw [show ((k + 1:Nat):Int) - 1=(k:Int) by omega,Nat.zero_mul,Nat.zero_add,hv] at this
     exact this
   by_cases h9:k=9
   ·rw [q_ift (by rw [beq_iff_eq];omega),q_get hget]
    by_cases h1:1 < c.toNat
    ·rw [q_ift (decide_eq_true (by omega))]
     exact fin _ (decide_eq_true (.inl ⟨h9,h1⟩)).symm
    ·rw [q_iff (decide_eq_false (by omega)),q_ift (decide_eq_true (by omega)),q_get hget]
     refine fin _ ?_
     rw [Bool.eq_iff_iff,beq_iff_eq,decide_eq_true_eq];omega
   ·rw [q_iff (by rw [beq_eq_false_iff_ne];omega)]
    by_cases h0:0 < k
    ·rw [q_ift (decide_eq_true (by omega)),q_get hget]
     refine fin _ ?_
     rw [Bool.eq_iff_iff,beq_iff_eq,decide_eq_true_eq];omega
    ·rw [q_iff (decide_eq_false (by omega))]
     refine fin _ ?_
     rw [Bool.eq_iff_iff,decide_eq_true_eq]
     constructor
     ·intro h;cases h
     ·intro h;omega
  ·rw [q_ift (decide_eq_true (by omega)),q_ck (by omega) (by omega),show (k:Int) + 1=((k + 1:Nat):Int) by omega]
   by_cases h9:k=9
   ·subst h9
    rw [if_pos (.inl ⟨rfl,by omega⟩)]
    obtain ⟨m,rfl⟩:∃ m',m=m' + 1:=⟨m - 1,by omega⟩
    rw [rg0_s]
    unfold B_ref01_GetInt_0
    by_cases hl:10 < s.length
    ·rw [intsS_len,q_ift (decide_eq_true (by omega)),q_iff (by rfl),q_bd]
     rfl
    ·rw [intsS_len,q_iff (decide_eq_false (by omega)),q_bd]
     rfl
   ·rw [if_neg (by omega),if_neg h128,rgi_0 hN s r (k + 1) m hr' (by omega) (by omega) (by omega),hv]
theorem rGetInt {N:Nat} (hN:20 <= N) (s:Str):G_ref01_GetInt N (intsS s)=some (gi s):=by
 unfold G_ref01_GetInt
 exact rgi_0 hN s s 0 N rfl (by omega) (by omega) (by omega)
end Go.Proofs.Tryz

set_option maxRecDepth 8000
set_option linter.all false
set_option synthInstance.maxSize 100000
set_option synthInstance.maxHeartbeats 400000
namespace Go.Proofs.Tryz
open Go.Eng Go.RowKit Go.Lib
theorem rlength_eq {N:Nat} (hN:20 <= N) (s:Str) (hs:s.length <= 1000000):G_ref01_length N (intsS s) 1=some (lenW s):=by
 unfold G_ref01_length lenW
 rw [rGetInt hN,q_bd,intsS_len]
 rcases gi_ok s with ⟨e,u,h1,h2,h3,h4,h5⟩ | ⟨h1,h2,h3⟩
 ·obtain ⟨b1,b2⟩:=h5
  rw [ne_f e,q_if0,if_neg (by rw [e];simp),h1,Int.tdiv_one]
  by_cases hn:(gi s).1 < 0
  ·rw [q_ift (decide_eq_true hn),if_pos hn]
  ·rw [q_iff (decide_eq_false hn),if_neg hn,q_ck (by omega) (by omega),q_gdT (by decide),q_ck (by omega) (by omega)]
   by_cases hg:(gi s).1 > (s.length:Int) - (u:Int)
   ·rw [q_ift (decide_eq_true hg),if_pos hg]
   ·rw [q_iff (decide_eq_false hg),if_neg hg]
 ·have hne:(gi s).2.2 ≠ 0:=by omega
  rw [ne_t hne,q_if1,if_pos hne]
theorem rgts_s (N m:Nat):L_ref01_GetInts_0 N (m + 1)=B_ref01_GetInts_0 N (L_ref01_GetInts_0 N m):=rfl
theorem rgetsI_loop {N:Nat} (hN:20 <= N) (s:Str) (v:Nat) (hs:s.length <= 1000000):∀ (n a b m:Nat) (acc:List Int),v=b + n->a <= s.length->b + n <= 1000000->acc.length=b->n < m ->
  L_ref01_GetInts_0 N m (intsS s) (v:Int) (a:Int) (b:Int) acc=some (swp (getsI n (s.drop a) (a:Int) acc))
 | n,a,b,0,acc,_,_,_,_,h=>by omega
 | 0,a,b,m + 1,acc,hv,ha,hb,hacc,_=>by
  rw [rgts_s]
  unfold B_ref01_GetInts_0
  rw [q_iff (decide_eq_false (by omega)),q_gl];rfl
 | n + 1,a,b,m + 1,acc,hv,ha,hb,hacc,hm=>by
  rw [rgts_s]
  unfold B_ref01_GetInts_0
  rw [q_ift (decide_eq_true (by omega)),q_gdT (by omega),Int.toNat_natCast,q_gdT (by rw [intsS_len];exact ha),q_gdT (Nat.le_refl _),ints_tail,rGetInt hN,q_bd,getsI]
  rcases gi_ok (s.drop a) with ⟨e,u,h1,h2,h3,h4,h5⟩ | ⟨h1,h2,h3⟩
  ·rw [List.length_drop] at h3
   rw [ne_f e,q_if0,if_neg (by rw [e];simp),q_gl,q_gdT (by simp only [List.length_cons,List.length_nil];omega),h1,q_ck (by omega) (by omega),q_ck (by omega) (by omega),q_gl,show ((a:Int) + (u:Int))=((a + u:Nat):Int) by omega,show ((b:Int) + 1)=((b + 1:Nat):Int) by omega,
    rgetsI_loop hN s v hs n (a + u) (b + 1) m _ (by omega) (by omega) (by omega) (by simp [hacc]) (by omega),Int.toNat_natCast,List.drop_drop]
  ·have hne:(gi (s.drop a)).2.2 ≠ 0:=by omega
   rw [ne_t hne,q_if1,if_pos hne];rfl
theorem rGetInts {N:Nat} (s:Str) (hN:20 <= N) (hs:s.length < N) (hb:s.length <= 1000000):G_ref01_GetInts N (intsS s)=some (swp (gints s)):=by
 unfold G_ref01_GetInts gints
 rw [rlength_eq hN s hb,q_bd]
 rcases lenW_ok s with ⟨e,n,u,h1,h2,h3⟩ | ⟨h1,h2,h3⟩
 ·rw [ne_f e,q_if0,if_neg (by rw [e];simp)]
  have e1:(lenW s).1=(n:Int):=by rw [h1]
  have e2:(lenW s).2.1=(u:Int):=by rw [h1]
  rw [e2,e1]
  have:=rgetsI_loop hN s n hb n u 0 N [] (by omega) (by omega) (by omega) rfl (by omega)
  rw [show (((0:Nat):Int))=0 from rfl] at this
  rw [this,Int.toNat_natCast,Int.toNat_natCast]
  try rfl
 ·have hne:(lenW s).2.2 ≠ 0:=by omega
  rw [ne_t hne,q_if1,if_pos hne]
  try rfl
theorem rGetBytes {N:Nat} (s:Str) (hN:20 <= N) (hb:s.length <= 1000000):G_ref01_GetBytes N (intsS s)=some (gbytes s):=by
 unfold G_ref01_GetBytes
 rw [rGetInt hN,q_bd,intsS_len]
 rcases gi_ok s with ⟨e,u,h1,h2,h3,h4,h5⟩ | ⟨h1,h2,h3⟩
 ·obtain ⟨b1,b2⟩:=h5
  rw [ne_f e,q_if0,h1]
  by_cases hn:(gi s).1 < 0
  ·have hl:lenW s=(0,0,11):=by unfold lenW;rw [if_neg (by rw [e];simp),if_pos hn]
   rw [q_ift (decide_eq_true hn),gbytes,hl];rfl
  ·rw [q_iff (decide_eq_false hn),q_ck (by omega) (by omega)]
   by_cases hg:(gi s).1 > (s.length:Int) - (u:Int)
   ·have hl:lenW s=(0,0,10):=by unfold lenW;rw [if_neg (by rw [e];simp),if_neg hn,h1,if_pos hg]
    rw [q_ift (decide_eq_true hg),gbytes,hl];rfl
   ·have hl:lenW s=((gi s).1,(u:Int),0):=by unfold lenW;rw [if_neg (by rw [e];simp),if_neg hn,h1,if_neg hg]
    rw [q_iff (decide_eq_false hg),q_ck (by omega) (by omega),q_gdT (by omega),q_gdT (by omega),q_gdT (by omega),q_gdT (by omega),q_ck (by omega) (by omega),Int.toNat_natCast,show ((u:Int) + (gi s).1).toNat - u=(gi s).1.toNat by omega,<- intsS_drop,<- intsS_take,bytesI_ints,gbytes,hl]
    rfl
 ·have hne:(gi s).2.2 ≠ 0:=by omega
  have hl:lenW s=(0,0,(gi s).2.2):=by unfold lenW;rw [if_pos hne]
  rw [ne_t hne,q_if1,gbytes,hl,if_pos (by exact hne)]
theorem rgst_s (N m:Nat):L_ref01_GetStrings_0 N (m + 1)=B_ref01_GetStrings_0 N (L_ref01_GetStrings_0 N m):=rfl
theorem rgetsS_loop {N:Nat} (hN:20 <= N) (s:Str) (v:Nat) (hs:s.length <= 1000000):∀ (n a b m:Nat) (acc:List Str),v=b + n->a <= s.length->b + n <= 1000000->acc.length=b->n < m ->
  L_ref01_GetStrings_0 N m (intsS s) (v:Int) (a:Int) (b:Int) acc=some (swp (getsS n (s.drop a) (a:Int) acc))
 | n,a,b,0,acc,_,_,_,_,h=>by omega
 | 0,a,b,m + 1,acc,hv,ha,hb,hacc,_=>by
  rw [rgst_s]
  unfold B_ref01_GetStrings_0
  rw [q_iff (decide_eq_false (by omega)),q_gl];rfl
 | n + 1,a,b,m + 1,acc,hv,ha,hb,hacc,hm=>by
  rw [rgst_s]
  unfold B_ref01_GetStrings_0
  rw [q_ift (decide_eq_true (by omega)),q_gdT (by omega),Int.toNat_natCast,q_gdT (by rw [intsS_len];exact ha),q_gdT (Nat.le_refl _),ints_tail,rGetBytes _ hN (by rw [List.length_drop];omega),q_bd,getsS]
  rcases gbytes_ok (s.drop a) with ⟨e,u,h1,h2,h3,h4⟩ | ⟨h1,h2,h3⟩
  ·rw [List.length_drop] at h3
   rw [ne_f e,q_if0,if_neg (by rw [e];simp),q_gl,q_gdT (by simp only [List.length_cons,List.length_nil];omega),h1,q_ck (by omega) (by omega),q_ck (by omega) (by omega),q_gl,show ((a:Int) + (u:Int))=((a + u:Nat):Int) by omega,show ((b:Int) + 1)=((b + 1:Nat):Int) by omega,
    rgetsS_loop hN s v hs n (a + u) (b + 1) m _ (by omega) (by omega) (by omega) (by simp [hacc]) (by omega),Int.toNat_natCast,List.drop_drop]
  ·have hne:(gbytes (s.drop a)).2.2 ≠ 0:=by omega
   rw [ne_t hne,q_if1,if_pos hne];rfl
theorem rGetStrings {N:Nat} (s:Str) (hN:20 <= N) (hs:s.length < N) (hb:s.length <= 1000000):G_ref01_GetStrings N (intsS s)=some (swp (gstrs s)):=by
 unfold G_ref01_GetStrings gstrs
 rw [rlength_eq hN s hb,q_bd]
 rcases lenW_ok s with ⟨e,n,u,h1,h2,h3⟩ | ⟨h1,h2,h3⟩
 ·rw [ne_f e,q_if0,if_neg (by rw [e];simp)]
  have e1:(lenW s).1=(n:Int):=by rw [h1]
  have e2:(lenW s).2.1=(u:Int):=by rw [h1]
  rw [e2,e1]
  have:=rgetsS_loop hN s n hb n u 0 N [] (by omega) (by omega) (by omega) rfl (by omega)
  rw [show (((0:Nat):Int))=0 from rfl] at this
  rw [this,Int.toNat_natCast,Int.toNat_natCast]
  try rfl
 ·have hne:(lenW s).2.2 ≠ 0:=by omega
  rw [ne_t hne,q_if1,if_pos hne]
  try rfl
end Go.Proofs.Tryz

set_option maxRecDepth 8000
set_option linter.all false
set_option synthInstance.maxSize 100000
set_option synthInstance.maxHeartbeats 400000
namespace Go.Proofs.Tryz
open Go.Eng Go.RowKit Go.Lib
def rz:Rd:=(0,(0,(0,(0,(0,0)))))
theorem grd_z {s:Str} (h:(grd s).2 ≠ 0):grd s=(rz,11):=by
 rcases grd_e s with g | g
 ·exact absurd g h
 ·exact g
theorem gints_all {l:List Int} (h:∀ x ∈ l,I64 x) (hl:l.length <= 1000000):gints (encI l)=(l,((encI l).length:Int),0):=by
 have:=gints_enc h hl []
 rwa [List.append_nil] at this
theorem q_nb {x y:Str} (h:x=y):(!(x == y))=false:=by subst h;simp
theorem q_nbn {x y:Str} (h:x ≠ y):(!(x == y))=true:=by simp [h]
theorem rGetReading {N:Nat} (s:Str) (hN:20 <= N) (hs:s.length < N) (hb:s.length <= 1000000):G_ref23_GetReading N s=some (grd s):=by
 unfold G_ref23_GetReading
 rw [rGetInts s hN hs hb,q_bd]
 unfold swp
 dsimp only
 rcases gints_ok s with ⟨e,u,h1,h2,h3,h4⟩ | g
 ·rw [ne_f e,q_if0,q_gl,q_bd]
  by_cases hl:(gints s).1.length=7
  ·have h7:=list7 hl
   have hI:=h4
   generalize (gints s).1.getD 0 0=a0 at h7
   generalize (gints s).1.getD 1 0=a1 at h7
   generalize (gints s).1.getD 2 0=a2 at h7
   generalize (gints s).1.getD 3 0=a3 at h7
   generalize (gints s).1.getD 4 0=a4 at h7
   generalize (gints s).1.getD 5 0=a5 at h7
   generalize (gints s).1.getD 6 0=a6 at h7
   rw [h7] at hI |-
   have ok:okR (a1,(a2,(a3,(a4,(a5,a6))))):=fun x hx=>by
    rcases List.mem_cons.1 hx with rfl | hx
    ·exact I64_lit.2
    ·exact hI x (List.mem_cons.2 (.inr hx))
   show bd? (G_ref23_Reading N (a1,(a2,(a3,(a4,(a5,a6)))))) (fun v10=>if? (!(v10 == s)) (some (rz,11)) (some ((a1,(a2,(a3,(a4,(a5,a6))))),0)))=_
   rw [rReading hN ok,q_bd]
   by_cases he:encR (a1,(a2,(a3,(a4,(a5,a6)))))=s
   ·rw [q_nb he,q_if0,<- he,grd_enc ok]
   ·rw [q_nbn he,q_if1,grd_z]
    intro h0
    obtain ⟨g1,g2⟩:=grd_can h0
    have e2:=gints_all (l:=rl (grd s).1) g2 (by show 7 <= _;omega)
    have e3:gints s=gints (encI (rl (grd s).1)):=congrArg gints g1
    rw [e2] at e3
    have e4:(gints s).1=rl (grd s).1:=by rw [e3]
    rw [h7] at e4
    apply he
    rw [g1]
    unfold encR
    refine congrArg encI ?_
    show 1 :: _=1 :: _
    exact congrArg (fun t=>1 :: t) (congrArg List.tail e4)
  ·rw [ne_t (show ((gints s).1.length:Int) ≠ 7 by omega),q_if1,grd_z]
   ·rfl
   ·intro h0
    obtain ⟨g1,g2⟩:=grd_can h0
    have e2:=gints_all (l:=rl (grd s).1) g2 (by show 7 <= _;omega)
    have e3:gints s=gints (encI (rl (grd s).1)):=congrArg gints g1
    rw [e2] at e3
    apply hl
    rw [e3];rfl
 ·rw [ne_t g,q_if1,q_gl,q_bd,grd_z]
  ·rfl
  ·intro h0
   obtain ⟨g1,g2⟩:=grd_can h0
   have e2:=gints_all (l:=rl (grd s).1) g2 (by show 7 <= _;omega)
   have e3:gints s=gints (encI (rl (grd s).1)):=congrArg gints g1
   rw [e2] at e3
   apply g
   rw [e3]
end Go.Proofs.Tryz

set_option maxRecDepth 8000
set_option linter.all false
set_option synthInstance.maxSize 100000
set_option synthInstance.maxHeartbeats 400000
namespace Go.Proofs.Tryz
open Go.Eng Go.RowKit Go.Lib
theorem q_gg {α β:Type} {xs:List α} {i:Nat} {x:α} {f:α->Option β} (h:xs[i]?=some x):gd? (0 <= (i:Int)) (gd? ((i:Int) < ((xs.length:Nat):Int)) (gn? xs (i:Int).toNat f))=f x:=by
 have hl:=(List.getElem?_eq_some_iff.1 h).1
 rw [q_gdT (by omega),q_gdT (by omega),Int.toNat_natCast,q_gn h]
def pp:List Str->List Pt->Option (List Pt)
 | a :: b :: c :: d :: r,acc=>if (gi a).2.2=0 then pp r (acc ++ [((gi a).1,(b == uvI 1,(c,d)))]) else none
 | _,acc=>some acc
def fl2 (v:Vr × Int):Int × (Int × (Int × (Int × (Int × (Int × (Int × (Int × List Pt))))))):=(v.1.1,(v.1.2.1,(v.1.2.2.1,(v.1.2.2.2.1,(v.1.2.2.2.2.1,(v.1.2.2.2.2.2.1,(v.1.2.2.2.2.2.2.1,(v.2,v.1.2.2.2.2.2.2.2))))))))
def vfin (s:Str) (x1 x2 x3 x4 x5 x6 x7:Int):Option (List Pt)->Vr × Int
 | none=>(vz,11)
 | some q=>if encV (x1,(x2,(x3,(x4,(x5,(x6,(x7,q)))))))=s then ((x1,(x2,(x3,(x4,(x5,(x6,(x7,q))))))),0) else (vz,11)
theorem uvI_0:uvI 0=[0]:=uvarint_small (x:=0) (by decide)
theorem uvI_1:uvI 1=[2]:=uvarint_small (x:=2) (by decide)
theorem sgb_b (b:Bool):(uvI (sgb b) == uvI 1)=b:=by
 cases b with
 | false=>show (uvI 0 == uvI 1)=false;rw [uvI_0,uvI_1];rfl
 | true=>show (uvI 1 == uvI 1)=true;rw [uvI_1];rfl
theorem pp_enc:∀ (l acc:List Pt),okP l->pp (l.flatMap prt) acc=some (acc ++ l)
 | [],acc,_=>by rw [List.append_nil];rfl
 | p :: l,acc,h=>by
  have hp:=(h p (by simp)).1
  have e:=gi_enc hp []
  rw [List.append_nil] at e
  rw [List.flatMap_cons]
  show pp (uvI p.1 :: uvI (sgb p.2.1) :: p.2.2.1 :: p.2.2.2 :: l.flatMap prt) acc=_
  rw [pp,e,if_pos rfl,sgb_b,pp_enc l _ (fun q hq=>h q (by simp [hq])),List.append_assoc]
  rfl
theorem rgv_s (N m:Nat):L_ref23_GetVersion_0 N (m + 1)=B_ref23_GetVersion_0 N (L_ref23_GetVersion_0 N m):=rfl
theorem rgv_loop {N:Nat} (hN:20 <= N) (s:Str) (x1 x2 x3 x4 x5 x6 x7:Int) (hI:∀ x ∈ [2,x1,x2,x3,x4,x5,x6,x7],I64 x) (L:List Str) (hLN:L.length < N) (hL:L.length <= 4000) (hp:∀ x ∈ L,x.length <= 50000):∀ (k j m:Nat) (acc:List Pt),L.length=4 * (j + k)->k < m->acc.length=j->okP acc ->
  L_ref23_GetVersion_0 N m s ((4 * j:Nat):Int) 0 0 0 0 0 0 0 0 0 0 0 0 0 0 0 11 L x1 x2 x3 x4 x5 x6 x7 [] [] acc=some (fl2 (vfin s x1 x2 x3 x4 x5 x6 x7 (pp (L.drop (4 * j)) acc)))
 | k,j,0,_,_,h,_,_=>by omega
 | 0,j,m + 1,acc,hj,_,ha,hok=>by
  rw [rgv_s]
  unfold B_ref23_GetVersion_0
  rw [q_iff (decide_eq_false (by omega)),q_gl,List.drop_of_length_le (by omega)]
  have ok:okV (x1,(x2,(x3,(x4,(x5,(x6,(x7,acc))))))):=⟨hI,by show acc.length <= _;omega,hok⟩
  rw [rVersion hN ok (by show 4 * acc.length < N;omega),q_bd]
  show _=some (fl2 (if encV (x1,(x2,(x3,(x4,(x5,(x6,(x7,acc)))))))=s then ((x1,(x2,(x3,(x4,(x5,(x6,(x7,acc))))))),0) else (vz,11)))
  by_cases he:encV (x1,(x2,(x3,(x4,(x5,(x6,(x7,acc)))))))=s
  ·rw [q_nb he,q_if0,q_gl,if_pos he];rfl
  ·rw [q_nbn he,q_if1,q_gl,if_neg he];rfl
 | k + 1,j,m + 1,acc,hj,hm,ha,hok=>by
  have l0:4 * j < L.length:=by omega
  have l1:4 * j + 1 < L.length:=by omega
  have l2:4 * j + 2 < L.length:=by omega
  have l3:4 * j + 3 < L.length:=by omega
  have ed:L.drop (4 * j)=L[4 * j] :: L[4 * j + 1] :: L[4 * j + 2] :: L[4 * j + 3] :: L.drop (4 * (j + 1)):=by
   rw [List.drop_eq_getElem_cons l0,List.drop_eq_getElem_cons l1,List.drop_eq_getElem_cons l2,List.drop_eq_getElem_cons l3]
   rfl
  have hc:=hp _ (List.getElem_mem l2)
  have hd:=hp _ (List.getElem_mem l3)
  rw [rgv_s]
  unfold B_ref23_GetVersion_0
  rw [ed,pp,q_ift (decide_eq_true (by omega)),q_gg (List.getElem?_eq_getElem l0),rGetInt hN,q_bd]
  rcases gi_ok L[4 * j] with ⟨e,u,h1,h2,h3,h4,h5⟩ | ⟨h1,h2,h3⟩
  ·rw [ne_f e,q_if0,if_pos e,q_ck (by omega) (by omega),show ((4 * j:Nat):Int) + 1=((4 * j + 1:Nat):Int) by omega,q_gg (List.getElem?_eq_getElem l1),rnumber hN I64_lit.2,q_bd,q_ck (by omega) (by omega),show ((4 * j:Nat):Int) + 2=((4 * j + 2:Nat):Int) by omega,q_gg (List.getElem?_eq_getElem l2),q_ck (by omega) (by omega),show ((4 * j:Nat):Int) + 3=((4 * j + 3:Nat):Int) by omega,q_gg (List.getElem?_eq_getElem l3),q_gl,q_gdT (by simp only [List.length_cons,List.length_nil];omega),q_ck (by omega) (by omega),show ((4 * j:Nat):Int) + 4=((4 * (j + 1):Nat):Int) by omega,q_gl,q_gl,q_gl,q_gl]
   refine rgv_loop hN s x1 x2 x3 x4 x5 x6 x7 hI L hLN hL hp k (j + 1) m _ (by omega) (by omega) (by simp only [List.length_append,List.length_cons,List.length_nil];omega) fun p hp=>?_
   rcases List.mem_append.1 hp with hp | hp
   ·exact hok p hp
   ·rw [List.mem_singleton.1 hp]
    exact ⟨h5,hc,hd⟩
  ·have hne:(gi L[4 * j]).2.2 ≠ 0:=by omega
   rw [ne_t hne,q_if1,if_neg hne,q_gl];rfl
end Go.Proofs.Tryz

set_option maxRecDepth 8000
set_option linter.all false
set_option synthInstance.maxSize 100000
set_option synthInstance.maxHeartbeats 400000
namespace Go.Proofs.Tryz
open Go.Eng Go.RowKit Go.Lib
theorem pp_ok:∀ (k:Nat) (L:List Str) (acc q:List Pt),L.length=4 * k->okP acc->(∀ x ∈ L,x.length <= 50000)->pp L acc=some q->okP q/\q.length=acc.length + k
 | 0,L,acc,q,hl,ha,_,h=>by
  have:L=[]:=List.length_eq_zero_iff.1 (by omega)
  subst this
  cases h
  exact ⟨ha,rfl⟩
 | k + 1,L,acc,q,hl,ha,hp,h=>by
  obtain ⟨a,b,c,d,r,rfl⟩:∃ a b c d r,L=a :: b :: c :: d :: r:=by
   match L,hl with
   | a :: b :: c :: d :: r,_=>exact ⟨a,b,c,d,r,rfl⟩
   | [],h=>simp at h
   | [_],h=>simp at h;omega
   | [_,_],h=>simp at h;omega
   | [_,_,_],h=>simp at h;omega
  rw [pp] at h
  rcases gi_ok a with ⟨e,u,h1,h2,h3,h4,h5⟩ | ⟨h1,h2,h3⟩
  ·rw [if_pos e] at h
   have:=pp_ok k r _ q (by simp only [List.length_cons] at hl;omega) (fun p hq=>by
    rcases List.mem_append.1 hq with hq | hq
    ·exact ha p hq
    ·rw [List.mem_singleton.1 hq]
     exact ⟨h5,hp c (by simp),hp d (by simp)⟩) (fun x hx=>hp x (by simp [hx])) h
   refine ⟨this.1,?_⟩
   rw [this.2]
   simp only [List.length_append,List.length_cons,List.length_nil]
   omega
  ·rw [if_neg (by omega)] at h
   cases h
theorem gvr_z {s:Str} (h:(gvr s).2 ≠ 0):gvr s=(vz,11):=by
 rcases gvr_e s with g | g
 ·exact absurd g h
 ·exact g
theorem gV {v:Vr} (ok:okV v):gints (encV v)=(vl v,((encI (vl v)).length:Int),0)/\(gstrs ((encV v).drop (encI (vl v)).length)).1=(vp v).flatMap prt/\(gstrs ((encV v).drop (encI (vl v)).length)).2.2=0:=by
 obtain ⟨h1,h2,h3⟩:=ok
 have hs:=prt_ok h3
 have e:=gstrs_enc (l:=(vp v).flatMap prt) (fun x hx=>by have:=hs x hx;omega) (by rw [prt_len];omega) []
 rw [List.append_nil] at e
 refine ⟨gints_enc h1 (by show 8 <= _;omega) _,?_⟩
 unfold encV
 rw [drop_app,e]
 exact ⟨rfl,rfl⟩
theorem rGetVersion {N:Nat} (s:Str) (hN:20 <= N) (hs:s.length < N) (hb:s.length <= 4000):G_ref23_GetVersion N s=some (fl2 (gvr s)):=by
 have neg:∀ P:Prop,(∀ v,okV v->s=encV v->gvr s=(v,0)->¬P)->P->gvr s=(vz,11):=fun P h hP=>gvr_z fun h0=>by
  obtain ⟨g1,g2⟩:=gvr_can hb h0
  exact h _ g2 g1 (by rw [<- h0]) hP
 unfold G_ref23_GetVersion
 rw [rGetInts s hN hs (by omega),q_bd]
 unfold swp
 dsimp only
 rcases gints_ok s with ⟨e,u,h1,h2,h3,h4⟩ | g
 ·rw [ne_f e,q_if0,q_gl,q_bd]
  dsimp only
  by_cases hl:(gints s).1.length=8
  ·rw [ne_f (show ((gints s).1.length:Int)=8 by omega),q_if0,h1,q_gdT (by omega),Int.toNat_natCast,q_gdT h2,q_gdT (Nat.le_refl _),str_tail,rGetStrings _ hN (by rw [List.length_drop];omega) (by rw [List.length_drop];omega),q_bd]
   unfold swp
   dsimp only
   rcases gstrs_ok (s.drop u) with ⟨e',u',g1,g2,g3,g4⟩ | g
   ·rw [List.length_drop] at g3
    rw [ne_f e',q_if0,q_gl,q_gl,q_gl,q_gl,q_bd]
    dsimp only
    have e4:Int.tmod ((gstrs (s.drop u)).1.length:Int) 4=(((gstrs (s.drop u)).1.length % 4:Nat):Int):=by rw [show (4:Int)=((4:Nat):Int) from rfl,<- Int.ofNat_tmod]
    have hV:∀ v,okV v->s=encV v->gints s=(vl v,(u:Int),0)/\(gstrs (s.drop u)).1=(vp v).flatMap prt:=fun v ok hv=>by
     obtain ⟨i1,i2,i3⟩:=gV ok
     rw [<- hv] at i1 i2
     have hu:u=(encI (vl v)).length:=by rw [i1] at h1;exact (Int.ofNat.inj h1).symm
     rw [<- hu] at i1 i2
     exact ⟨i1,i2⟩
    by_cases h4':(gstrs (s.drop u)).1.length % 4=0
    ·rw [e4,h4',ne_f (show ((0:Nat):Int)=0 from rfl),q_if0]
     have h8:=list8 hl
     have hI:=h4
     have h0:(gints s).1.getD 0 0=(gints s).1.getD 0 0:=rfl
     generalize hG:(gstrs (s.drop u)).1=L at *
     rw [h8] at hI |-
     have hVL:∀ v,okV v->s=encV v->(gints s).1=vl v:=fun v ok hv=>by rw [(hV v ok hv).1]
     rw [h8] at hVL
     generalize (gints s).1.getD 0 0=a0 at *
     generalize (gints s).1.getD 1 0=a1 at *
     generalize (gints s).1.getD 2 0=a2 at *
     generalize (gints s).1.getD 3 0=a3 at *
     generalize (gints s).1.getD 4 0=a4 at *
     generalize (gints s).1.getD 5 0=a5 at *
     generalize (gints s).1.getD 6 0=a6 at *
     generalize (gints s).1.getD 7 0=a7 at *
     show gl? L.length L (L_ref23_GetVersion_0 N N s ((4 * 0:Nat):Int) 0 0 0 0 0 0 0 0 0 0 0 0 0 0 0 11 L a1 a2 a3 a4 a5 a6 a7 [] [] [])=_
     rw [q_gl]
     have hI':∀ x ∈ [2,a1,a2,a3,a4,a5,a6,a7],I64 x:=fun x hx=>by
      rcases List.mem_cons.1 hx with rfl | hx
      ·exact ⟨by decide,by decide⟩
      ·exact hI x (List.mem_cons.2 (.inr hx))
     have hp:∀ x ∈ L,x.length <= 50000:=fun x hx=>by
      have:=g4 x hx
      rw [List.length_drop] at this
      omega
     rw [rgv_loop hN s a1 a2 a3 a4 a5 a6 a7 hI' L (by omega) (by omega) hp (L.length / 4) 0 N [] (by omega) (by omega) rfl (fun p hp=>(List.not_mem_nil hp).elim)]
     show some (fl2 (vfin s a1 a2 a3 a4 a5 a6 a7 (pp L [])))=_
     refine congrArg (fun x=>some (fl2 x)) ?_
     cases hq:pp L [] with
     | none =>
      refine (neg True (fun v ok hv _ _=>?_) trivial).symm
      have:=(hV v ok hv).2
      rw [this,pp_enc _ _ ok.2.2] at hq
      cases hq
     | some q =>
      obtain ⟨q1,q2⟩:=pp_ok (L.length / 4) L [] q (by omega) (fun p hp=>(List.not_mem_nil hp).elim) hp hq
      have ok:okV (a1,(a2,(a3,(a4,(a5,(a6,(a7,q))))))):=⟨hI',by show q.length <= _;rw [q2,List.length_nil];omega,q1⟩
      unfold vfin
      dsimp only
      by_cases he:encV (a1,(a2,(a3,(a4,(a5,(a6,(a7,q)))))))=s
      ·rw [if_pos he,<- he,gvr_enc ok]
      ·rw [if_neg he]
       refine (neg True (fun v okv hv _ _=>he ?_) trivial).symm
       have e1:=hVL v okv hv
       have e2:=(hV v okv hv).2
       rw [e2,pp_enc _ _ okv.2.2,List.nil_append] at hq
       have e3:=Option.some.inj hq
       rw [hv]
       have e5:vl (a1,(a2,(a3,(a4,(a5,(a6,(a7,q)))))))=vl v:=by
        show 2 :: _=2 :: _
        exact congrArg (fun t=>2 :: t) (congrArg List.tail e1)
       unfold encV
       rw [e5,<- e3]
    ·rw [e4,ne_t (show ((((gstrs (s.drop u)).1.length % 4:Nat):Int) ≠ 0) by omega),q_if1,q_gl,neg ((gstrs (s.drop u)).1.length % 4 ≠ 0) (fun v ok hv _ h=>h (by rw [(hV v ok hv).2,prt_len];omega)) h4']
     rfl
   ·rw [ne_t g,q_if1,q_gl,q_gl,q_gl,q_gl,q_bd]
    dsimp only
    rw [q_if1,q_gl,neg ((gstrs (s.drop u)).2.2 ≠ 0) (fun v ok hv _ h=>h (by
     obtain ⟨i1,i2,i3⟩:=gV ok
     rw [<- hv] at i1 i3
     have hu:u=(encI (vl v)).length:=by rw [i1] at h1;exact (Int.ofNat.inj h1).symm
     rw [hu];exact i3)) g]
    rfl
  ·rw [ne_t (show ((gints s).1.length:Int) ≠ 8 by omega),q_if1,q_gl,neg ((gints s).1.length ≠ 8) (fun v ok hv _ h=>h (by rw [hv,(gV ok).1];rfl)) hl]
   rfl
 ·rw [ne_t g,q_if1,q_gl,q_bd]
  dsimp only
  rw [q_if1,q_gl,neg ((gints s).2.2 ≠ 0) (fun v ok hv _ h=>h (by rw [hv,(gV ok).1])) g]
  rfl
end Go.Proofs.Tryz

set_option maxRecDepth 8000
set_option linter.all false
set_option synthInstance.maxSize 100000
set_option synthInstance.maxHeartbeats 400000
namespace Go.Proofs.Tryz
open Go.Eng Go.RowKit Go.Lib
theorem kb1_s (N:Nat) (r) (m:Nat):L_leaf_Block_1 N r (m + 1)=B_leaf_Block_1 N r (L_leaf_Block_1 N r m):=rfl
theorem kb0_s (N m:Nat):L_leaf_Block_0 N (m + 1)=B_leaf_Block_0 N (L_leaf_Block_0 N m):=rfl
theorem rb1_s (N:Nat) (r) (m:Nat):L_ref23_Block_1 N r (m + 1)=B_ref23_Block_1 N r (L_ref23_Block_1 N r m):=rfl
theorem rb0_s (N m:Nat):L_ref23_Block_0 N (m + 1)=B_ref23_Block_0 N (L_ref23_Block_0 N m):=rfl
theorem tk (t:List Hl) (j:Nat) (h:j < t.length) (P:List Int):P ++ [t[j].1,t[j].2] ++ (t.drop (j + 1)).flatMap hlI=P ++ (t.drop j).flatMap hlI:=by
 rw [get_drop h,List.flatMap_cons,List.append_assoc];rfl
theorem kb1 {N:Nat} (hN:5000 <= N) (r) (rs rs':List Rn) (n i:Nat) (t:List Hl) (f1 f2 f3 f4 f5:Int) (acc:List Str) (ht:t.length <= 1000) (hacc:acc.length <= 1000) (hi:i <= 1000):∀ (k j m:Nat) (P:List Int),j + k=t.length->k < m->P.length <= 4 + 2 * j->(∀ x ∈ P ++ (t.drop j).flatMap hlI,I64 x) ->
  L_leaf_Block_1 N r m rs (n:Int) (i:Int) t ((t.length:Nat):Int) (j:Int) f1 f2 f3 f4 f5 rs' acc P=r rs (n:Int) ((i + 1:Nat):Int) f1 f2 f3 f4 f5 rs' (acc ++ [encI (P ++ (t.drop j).flatMap hlI)])
 | k,j,0,P,_,h,_,_=>by omega
 | 0,j,m + 1,P,hj,_,hP,hI=>by
  rw [kb1_s]
  unfold B_leaf_Block_1
  rw [List.drop_of_length_le (by omega)] at hI |-
  rw [List.flatMap_nil,List.append_nil] at hI |-
  rw [q_iff (decide_eq_false (by omega)),q_gl,numbers_eq (by omega) P hI (by omega) (by omega),q_bd,q_gl,q_gdT (by simp only [List.length_cons,List.length_nil];omega),q_ck (by omega) (by omega),q_gl,show ((i:Int) + 1)=((i + 1:Nat):Int) by omega]
 | k + 1,j,m + 1,P,hj,hm,hP,hI=>by
  have hlt:j < t.length:=by omega
  rw [kb1_s]
  unfold B_leaf_Block_1
  rw [q_ift (decide_eq_true (by omega)),q_get (List.getElem?_eq_getElem hlt),q_gl,q_gdT (by simp only [List.length_cons,List.length_nil];omega),q_ck (by omega) (by omega),q_gl,q_gl,show ((j:Int) + 1)=((j + 1:Nat):Int) by omega,kb1 hN r rs rs' n i t f1 f2 f3 f4 f5 acc ht hacc hi k (j + 1) m _ (by omega) (by omega) (by simp only [List.length_append,List.length_cons,List.length_nil];omega) (by rw [tk _ _ hlt];exact hI),tk _ _ hlt]
theorem rb1 {N:Nat} (hN:5000 <= N) (r) (rs':List Rn) (i:Nat) (t:List Hl) (f1 f2 f3 f4 f5 y1 y2 y3 y4:Int) (acc:List Str) (ht:t.length <= 1000) (hacc:acc.length <= 1000) (hi:i <= 1000):∀ (k j m:Nat) (P:List Int),j + k=t.length->k < m->P.length <= 4 + 2 * j->(∀ x ∈ P ++ (t.drop j).flatMap hlI,I64 x) ->
  L_ref23_Block_1 N r m (i:Int) (j:Int) f1 f2 f3 f4 f5 rs' acc y1 y2 t y3 y4 P=r ((i + 1:Nat):Int) f1 f2 f3 f4 f5 rs' (acc ++ [encI (P ++ (t.drop j).flatMap hlI)])
 | k,j,0,P,_,h,_,_=>by omega
 | 0,j,m + 1,P,hj,_,hP,hI=>by
  rw [rb1_s]
  unfold B_ref23_Block_1
  rw [List.drop_of_length_le (by omega)] at hI |-
  rw [List.flatMap_nil,List.append_nil] at hI |-
  rw [q_iff (decide_eq_false (by omega)),q_gl,rnumbers (by omega) P hI (by omega) (by omega),q_bd,q_gl,q_gdT (by simp only [List.length_cons,List.length_nil];omega),q_ck (by omega) (by omega),q_gl,show ((i:Int) + 1)=((i + 1:Nat):Int) by omega]
 | k + 1,j,m + 1,P,hj,hm,hP,hI=>by
  have hlt:j < t.length:=by omega
  rw [rb1_s]
  unfold B_ref23_Block_1
  rw [q_ift (decide_eq_true (by omega)),q_get (List.getElem?_eq_getElem hlt),q_get (List.getElem?_eq_getElem hlt),q_gl,q_gdT (by simp only [List.length_cons,List.length_nil];omega),q_ck (by omega) (by omega),q_gl,q_gl,show ((j:Int) + 1)=((j + 1:Nat):Int) by omega,rb1 hN r rs' i t f1 f2 f3 f4 f5 y1 y2 y3 y4 acc ht hacc hi k (j + 1) m _ (by omega) (by omega) (by simp only [List.length_append,List.length_cons,List.length_nil];omega) (by rw [tk _ _ hlt];exact hI),tk _ _ hlt]
theorem encK_g {b:Bk} (h:okK b):(∀ x ∈ (brs b).map fun r=>encI (rnI r),x.length <= 50000)/\(encI (bl b)).length + (encS ((brs b).map fun r=>encI (rnI r))).length <= 9223372036854775807:=by
 obtain ⟨h1,h2,h3⟩:=h
 have hp:∀ x ∈ (brs b).map fun r=>encI (rnI r),x.length <= 50000:=fun x hx=>by
  obtain ⟨r,hr,rfl⟩:=List.mem_map.1 hx
  have:=encI_le (h3 r hr).2 (by rw [rnI_len];have:=(h3 r hr).1;omega)
  rw [rnI_len] at this
  have:=(h3 r hr).1
  omega
 refine ⟨hp,?_⟩
 have a1:=encI_le h1 (by show 6 <= _;omega)
 have a2:=encS_le (by omega) hp (by rw [List.length_map];omega)
 have h9:(bl b).length=6:=rfl
 rw [List.length_map] at a2
 have a3:(50000 + 10) * (brs b).length <= 50010 * 1000:=Nat.mul_le_mul_left _ h2
 omega
theorem kb0 {N:Nat} (hN:5000 <= N) (b:Bk) (hb:okK b):∀ (k i m:Nat),i + k=(brs b).length->k < m ->
  L_leaf_Block_0 N m (brs b) (((brs b).length:Nat):Int) (i:Int) b.1 b.2.1 b.2.2.1 b.2.2.2.1 b.2.2.2.2.1 (brs b) (((brs b).take i).map fun r=>encI (rnI r))=some (encK b)
 | k,i,0,_,h=>by omega
 | 0,i,m + 1,hi,_=>by
  obtain ⟨e1,e2⟩:=encK_g hb
  obtain ⟨h1,h2,h3⟩:=hb
  rw [kb0_s]
  unfold B_leaf_Block_0
  rw [q_iff (decide_eq_false (by omega)),List.take_of_length_le (by omega)]
  show bd? (G_leaf_numbers N (bl b)) _=_
  rw [numbers_eq (by omega) _ h1 (by show 6 < N;omega) (by show 6 <= _;omega),q_bd,q_gl,Strings_eq (by omega) _ (fun x hx=>by have:=e1 x hx;omega) (by rw [List.length_map];omega) (by rw [List.length_map];omega),q_bd,q_gl,bytesI_ints]
  exact q_gdT e2
 | k + 1,i,m + 1,hi,hm=>by
  have hlt:i < (brs b).length:=by omega
  have hb':=hb
  obtain ⟨h1,h2,h3⟩:=hb'
  obtain ⟨g1,g2⟩:=h3 _ (List.getElem_mem hlt)
  have ih:=kb0 hN b hb k (i + 1) m (by omega) (by omega)
  rw [take_next _ _ hlt,List.map_append] at ih
  rw [kb0_s]
  unfold B_leaf_Block_0
  rw [q_ift (decide_eq_true (by omega)),q_get (List.getElem?_eq_getElem hlt),q_gl]
  refine (kb1 hN _ (brs b) (brs b) _ i _ _ _ _ _ _ _ g1 (by rw [List.length_map,List.length_take];omega) (by omega) (brs b)[i].2.2.1.length 0 N _ (by omega) (by omega) (Nat.le_refl _) g2).trans ih
theorem Block_eq {N:Nat} (hN:5000 <= N) {b:Bk} (h:okK b):G_leaf_Block N b=some (encK b):=by
 unfold G_leaf_Block
 exact kb0 hN b h (brs b).length 0 N (by omega) (by have:=h.2.1;omega)
theorem rb0 {N:Nat} (hN:5000 <= N) (b:Bk) (hb:okK b):∀ (k i m:Nat),i + k=(brs b).length->k < m ->
  L_ref23_Block_0 N m (i:Int) b.1 b.2.1 b.2.2.1 b.2.2.2.1 b.2.2.2.2.1 (brs b) (((brs b).take i).map fun r=>encI (rnI r))=some (encK b)
 | k,i,0,_,h=>by omega
 | 0,i,m + 1,hi,_=>by
  obtain ⟨e1,e2⟩:=encK_g hb
  obtain ⟨h1,h2,h3⟩:=hb
  rw [rb0_s]
  unfold B_ref23_Block_0
  rw [q_iff (decide_eq_false (by omega)),List.take_of_length_le (by omega)]
  show bd? (G_ref23_numbers N (bl b)) _=_
  rw [rnumbers (by omega) _ h1 (by show 6 < N;omega) (by show 6 <= _;omega),q_bd,q_gl,rStrings (by omega) _ (fun x hx=>by have:=e1 x hx;omega) (by rw [List.length_map];omega) (by rw [List.length_map];omega),q_bd,q_gl,bytesI_ints]
  exact q_gdT e2
 | k + 1,i,m + 1,hi,hm=>by
  have hlt:i < (brs b).length:=by omega
  have hb':=hb
  obtain ⟨h1,h2,h3⟩:=hb'
  obtain ⟨g1,g2⟩:=h3 _ (List.getElem_mem hlt)
  have ih:=rb0 hN b hb k (i + 1) m (by omega) (by omega)
  rw [take_next _ _ hlt,List.map_append] at ih
  rw [rb0_s]
  unfold B_ref23_Block_0
  rw [q_ift (decide_eq_true (by omega)),q_get (List.getElem?_eq_getElem hlt),q_gl]
  refine (rb1 hN _ (brs b) i _ _ _ _ _ _ _ _ _ _ _ g1 (by rw [List.length_map,List.length_take];omega) (by omega) (brs b)[i].2.2.1.length 0 N _ (by omega) (by omega) (Nat.le_refl _) g2).trans ih
theorem rBlock {N:Nat} (hN:5000 <= N) {b:Bk} (h:okK b):G_ref23_Block N b=some (encK b):=by
 unfold G_ref23_Block
 exact rb0 hN b h (brs b).length 0 N (by omega) (by have:=h.2.1;omega)
end Go.Proofs.Tryz

set_option maxRecDepth 8000
set_option linter.all false
set_option synthInstance.maxSize 100000
set_option synthInstance.maxHeartbeats 400000
namespace Go.Proofs.Tryz
open Go.Eng Go.RowKit Go.Lib
theorem q_gnD {α:Type} {l:List Int} {k:Nat} {j:Int} {f:Int->Option α} (hj:j=(k:Int)) (h:k < l.length):gd? (j < ((l.length:Nat):Int)) (gn? l k f)=f (l.getD k 0):=by
 rw [q_gdT (by omega),q_gn (List.getElem?_eq_getElem h),List.getD_eq_getElem?_getD,List.getElem?_eq_getElem h];rfl
def flk (x:Bk × Int):Int × (Int × (Int × (Int × (Int × (List Rn × Int))))):=(x.1.1,(x.1.2.1,(x.1.2.2.1,(x.1.2.2.2.1,(x.1.2.2.2.2.1,(x.1.2.2.2.2.2,x.2))))))
def bt (l:List Int):Option (List Rn)->Bk × Int
 | none=>(bkz,11)
 | some r=>(bkD l r,0)
theorem gk1_s (r) (m:Nat):L_leaf_GetBlock_1 r (m + 1)=B_leaf_GetBlock_1 r (L_leaf_GetBlock_1 r m):=rfl
theorem gk0_s (N m:Nat):L_leaf_GetBlock_0 N (m + 1)=B_leaf_GetBlock_0 N (L_leaf_GetBlock_0 N m):=rfl
theorem gk1 (r) (v:List Int) (ls:List Str) (n:Int) (i:Nat) (z1 z2 z3 z4 z5 z6 x y z w:Int) (acc e:List Rn) (hacc:acc.length <= 1000000) (hi:i <= 1000000):∀ (k m:Nat) (l:List Int) (t:List Hl),l.length=2 * k->k < m->t.length + k <= 1000000 ->
  L_leaf_GetBlock_1 r m v l ls n (i:Int) z1 z2 z3 z4 z5 z6 acc x y z w e t=r v ls n ((i + 1:Nat):Int) z1 z2 z3 z4 z5 z6 (acc ++ [(x,(y,(tbl l t,(z,w))))]) e
 | k,0,l,t,_,h,_=>by omega
 | 0,m + 1,l,t,hl,_,_=>by
  have:l=[]:=List.length_eq_zero_iff.1 (by omega)
  subst this
  rw [gk1_s]
  unfold B_leaf_GetBlock_1
  rw [q_iff (by rfl),q_gl,q_gl,q_gdT (by simp only [List.length_cons,List.length_nil];omega),q_ck (by omega) (by omega),q_gl,q_gl,show ((i:Int) + 1)=((i + 1:Nat):Int) by omega]
  rfl
 | k + 1,m + 1,l,t,hl,hm,ht=>by
  obtain ⟨a,b,q,rfl⟩:∃ a b q,l=a :: b :: q:=by
   match l,hl with
   | a :: b :: q,_=>exact ⟨a,b,q,rfl⟩
   | [],h=>simp at h
   | [_],h=>simp at h;omega
  have hq:q.length=2 * k:=by simp only [List.length_cons] at hl;omega
  rw [gk1_s]
  unfold B_leaf_GetBlock_1
  rw [q_ift (decide_eq_true (by simp only [List.length_cons];omega)),q_geti (x:=a) (by decide) rfl,q_geti (x:=b) (by decide) rfl,q_gl,q_gdT (by simp only [List.length_cons,List.length_nil];omega),q_gdT (by simp only [List.length_cons];omega),q_gdT (Nat.le_refl _),q_gl,q_gl,q_gl]
  have e2:List.take ((a :: b :: q).length - 2) (List.drop 2 (a :: b :: q))=q:=by
   show q.take (q.length + 2 - 2)=q
   rw [Nat.add_sub_cancel,List.take_length]
  rw [e2,gk1 r v ls n i z1 z2 z3 z4 z5 z6 x y z w acc e hacc hi k m q _ hq (by omega) (by simp only [List.length_append,List.length_cons,List.length_nil];omega),tbl]
theorem gk0 {N:Nat} (hN:20 <= N) (v:List Int) (hv:v.length=6) (L:List Str) (hL:L.length <= 1000000) (hp:∀ x ∈ L,x.length < N/\x.length <= 1000000):∀ (k i m:Nat) (acc:List Rn),i + k=L.length->k < m->acc.length=i ->
  L_leaf_GetBlock_0 N m v L ((L.length:Nat):Int) (i:Int) 0 0 0 0 0 0 acc []=some (flk (bt v (runs (L.drop i) acc)))
 | k,i,0,acc,_,h,_=>by omega
 | 0,i,m + 1,acc,hi,_,_=>by
  rw [gk0_s]
  unfold B_leaf_GetBlock_0
  rw [q_iff (decide_eq_false (by omega)),List.drop_of_length_le (by omega),show (1:Int)=((1:Nat):Int) from rfl,get_D (d:=0) (by omega),show (2:Int)=((2:Nat):Int) from rfl,get_D (d:=0) (by omega),show (3:Int)=((3:Nat):Int) from rfl,get_D (d:=0) (by omega),show (4:Int)=((4:Nat):Int) from rfl,get_D (d:=0) (by omega),show (5:Int)=((5:Nat):Int) from rfl,get_D (d:=0) (by omega),caught_r,q_bd,q_gl]
  rfl
 | k + 1,i,m + 1,acc,hi,hm,ha=>by
  have hlt:i < L.length:=by omega
  obtain ⟨p1,p2⟩:=hp _ (List.getElem_mem hlt)
  rw [gk0_s]
  unfold B_leaf_GetBlock_0
  rw [q_ift (decide_eq_true (by omega)),q_get (List.getElem?_eq_getElem hlt),GetIntS_eq _ (by omega) p1 p2,q_bd,get_drop hlt,runs]
  unfold swp
  dsimp only
  generalize hg:L[i]=p at *
  by_cases e:(gints p).2.2=0
  ·rw [eq_t e,q_if1]
   by_cases hu:(gints p).2.1=(p.length:Int)
   ·rw [eq_t hu,q_if1]
    by_cases h4:4 <= (gints p).1.length
    ·rw [q_ift (decide_eq_true (by omega))]
     have e4:Int.tmod ((gints p).1.length:Int) 2=(((gints p).1.length % 2:Nat):Int):=by rw [show (2:Int)=((2:Nat):Int) from rfl,<- Int.ofNat_tmod]
     by_cases h2:(gints p).1.length % 2=0
     ·rw [if_pos ⟨e,hu,h4,h2⟩,must_t N (eq_t (by rw [e4];omega)),q_bd,q_sml,q_gl,q_gl,q_gl,q_jr]
      dsimp only
      have hl:(gints p).1.length <= p.length:=by
       rcases gints_ok p with ⟨_,u,_,_,h3,_⟩ | g
       ·exact h3
       ·exact absurd e g
      rw [q_gnD (k:=0) (j:=0) rfl (by omega),q_gnD (k:=1) (j:=1) rfl (by omega),q_gnD (k:=2) (j:=2) rfl (by omega),q_gnD (k:=3) (j:=3) rfl (by omega),q_gdT h4,q_gdT (Nat.le_refl _),q_gl,q_gdT (by omega),q_gl]
      have et:List.take ((gints p).1.length - 4) (List.drop 4 (gints p).1)=(gints p).1.drop 4:=List.take_of_length_le (by rw [List.length_drop];exact Nat.le_refl _)
      rw [et,gk1 _ v L _ i 0 0 0 0 0 0 _ _ _ _ acc [] (by omega) (by omega) (((gints p).1.length - 4) / 2) N _ [] (by rw [List.length_drop];omega) (by omega) (by rw [List.length_nil];omega)]
      exact gk0 hN v hv L hL hp k (i + 1) m _ (by omega) (by omega) (by simp only [List.length_append,List.length_cons,List.length_nil];omega)
     ·rw [if_neg (fun q=>h2 q.2.2.2),must_f N (eq_f (by rw [e4];omega)),q_bd,q_smr,caught_p,q_bd,q_gl,q_inl,q_jl];rfl
    ·rw [q_iff (decide_eq_false (by omega)),if_neg (fun q=>h4 q.2.2.1),must_f N rfl,q_bd,q_smr,caught_p,q_bd,q_gl,q_inl,q_jl];rfl
   ·rw [eq_f hu,q_if0,if_neg (fun q=>hu q.2.1),must_f N rfl,q_bd,q_smr,caught_p,q_bd,q_gl,q_inl,q_jl];rfl
  ·rw [eq_f e,q_if0,if_neg (fun q=>e q.1),must_f N rfl,q_bd,q_smr,caught_p,q_bd,q_gl,q_inl,q_jl];rfl
theorem GetBlock_eq {N:Nat} (s:Str) (hN:20 <= N) (hs:s.length < N) (hb:s.length <= 1000000):G_leaf_GetBlock N s=some (flk (gbl s)):=by
 unfold G_leaf_GetBlock gbl
 rw [show (6:Int)=((6:Nat):Int) from rfl,head_eq s 3 6 true (by omega) hs hb (by omega),q_bd]
 cases hh:hd s 3 6 true with
 | none =>
  unfold oS
  rw [q_smr,caught_p,q_bd];rfl
 | some v =>
  obtain ⟨g1,g2,g3,g4⟩:=hd_ok hh
  unfold oS
  rw [q_sml]
  have:=gk0 hN v.1 g1 v.2 (by omega) (fun x hx=>by have:=g4 x hx;omega) v.2.length 0 N [] (by omega) (by omega) rfl
  refine this.trans (congrArg (fun x=>some (flk x)) ?_)
  rw [List.drop_zero]
  dsimp only
  cases runs v.2 [] <;> rfl
end Go.Proofs.Tryz

set_option maxRecDepth 8000
set_option linter.all false
set_option synthInstance.maxSize 100000
set_option synthInstance.maxHeartbeats 400000
namespace Go.Proofs.Tryz
open Go.Eng Go.RowKit Go.Lib
def rr:List Str->List Rn->Option (List Rn)
 | [],acc=>some acc
 | p :: r,acc=>if (gints p).2.2=0/\4 <= (gints p).1.length/\(gints p).1.length % 2=0 then rr r (acc ++ [rnD (gints p).1]) else none
def flk2 (x:Bk × Int):Int × (Int × (Int × (Int × (Int × (Int × List Rn))))):=(x.1.1,(x.1.2.1,(x.1.2.2.1,(x.1.2.2.2.1,(x.1.2.2.2.2.1,(x.2,x.1.2.2.2.2.2))))))
def kfin (s:Str) (x1 x2 x3 x4 x5:Int):Option (List Rn)->Bk × Int
 | none=>(bkz,11)
 | some q=>if encK (x1,(x2,(x3,(x4,(x5,q)))))=s then ((x1,(x2,(x3,(x4,(x5,q))))),0) else (bkz,11)
def okRs (l:List Rn):Prop:=∀ r ∈ l,r.2.2.1.length <= 1000/\∀ x ∈ rnI r,I64 x
theorem rnD_ok {p:Str} (hp:p.length <= 1000) (e:(gints p).2.2=0) (h4:4 <= (gints p).1.length) (h2:(gints p).1.length % 2=0):(rnD (gints p).1).2.2.1.length <= 1000/\∀ x ∈ rnI (rnD (gints p).1),I64 x:=by
 have l1:=rnI_len (rnD (gints p).1)
 rw [rnI_D h4 h2] at l1 |-
 rcases gints_ok p with ⟨_,u,_,_,h3,h5⟩ | g
 ·exact ⟨by omega,h5⟩
 ·exact absurd e g
theorem rr_ok:∀ (L:List Str) (acc q:List Rn),okRs acc->(∀ x ∈ L,x.length <= 1000)->rr L acc=some q->okRs q/\q.length=acc.length + L.length
 | [],acc,q,ha,_,h=>by cases h;exact ⟨ha,rfl⟩
 | p :: r,acc,q,ha,hp,h=>by
  rw [rr] at h
  split at h
  ·rename_i hh
   have:=rr_ok r _ q (fun x hx=>by
    rcases List.mem_append.1 hx with hx | hx
    ·exact ha x hx
    ·rw [List.mem_singleton.1 hx];exact rnD_ok (hp p (by simp)) hh.1 hh.2.1 hh.2.2) (fun x hx=>hp x (by simp [hx])) h
   refine ⟨this.1,?_⟩
   rw [this.2]
   simp only [List.length_append,List.length_cons,List.length_nil]
   omega
  ·cases h
theorem rr_enc:∀ (l acc:List Rn),okRs l->rr (l.map fun r=>encI (rnI r)) acc=some (acc ++ l)
 | [],acc,_=>by rw [List.append_nil];rfl
 | r :: l,acc,h=>by
  obtain ⟨h1,h2⟩:=h r (by simp)
  rw [List.map_cons,rr,gints_all h2 (by rw [rnI_len];omega),if_pos ⟨rfl,by rw [rnI_len];omega,by rw [rnI_len];omega⟩,rnD_I,rr_enc l _ (fun q hq=>h q (by simp [hq])),List.append_assoc]
  rfl
theorem rgk1_s (r) (m:Nat):L_ref23_GetBlock_1 r (m + 1)=B_ref23_GetBlock_1 r (L_ref23_GetBlock_1 r m):=rfl
theorem rgk0_s (N m:Nat):L_ref23_GetBlock_0 N (m + 1)=B_ref23_GetBlock_0 N (L_ref23_GetBlock_0 N m):=rfl
theorem rgk1 (r) (s:Str) (L:List Str) (i:Nat) (f1 f2 f3 f4 f5 x y z w:Int) (l:List Int) (acc:List Rn) (hacc:acc.length <= 1000000) (hi:i <= 1000000) (hl:l.length <= 1000000):∀ (k j m:Nat) (t:List Hl),l.length=j + 2 * k->k < m->t.length + k <= 1000000 ->
  L_ref23_GetBlock_1 r m s (i:Int) (j:Int) 0 0 0 0 0 0 0 0 0 0 0 11 L f1 f2 f3 f4 f5 l x y z w [] [] acc t=r s ((i + 1:Nat):Int) 0 0 0 0 0 0 0 0 0 0 0 11 L f1 f2 f3 f4 f5 [] [] (acc ++ [(x,(y,(tbl (l.drop j) t,(z,w))))])
 | k,j,0,t,_,h,_=>by omega
 | 0,j,m + 1,t,hj,_,_=>by
  rw [rgk1_s]
  unfold B_ref23_GetBlock_1
  rw [q_iff (decide_eq_false (by omega)),q_gl,q_gl,q_gdT (by simp only [List.length_cons,List.length_nil];omega),q_ck (by omega) (by omega),q_gl,q_gl,q_gl,q_gl,show ((i:Int) + 1)=((i + 1:Nat):Int) by omega,List.drop_of_length_le (by omega)]
  rfl
 | k + 1,j,m + 1,t,hj,hm,ht=>by
  have l0:j < l.length:=by omega
  have l1:j + 1 < l.length:=by omega
  rw [rgk1_s]
  unfold B_ref23_GetBlock_1
  rw [q_ift (decide_eq_true (by omega)),q_gg (List.getElem?_eq_getElem l0),q_ck (by omega) (by omega),show ((j:Int) + 1)=((j + 1:Nat):Int) by omega,q_gg (List.getElem?_eq_getElem l1),q_gl,q_gdT (by simp only [List.length_cons,List.length_nil];omega),q_ck (by omega) (by omega),q_gl,q_gl,q_gl,q_gl,q_gl,q_gl,show ((j:Int) + 2)=((j + 2:Nat):Int) by omega,rgk1 r s L i f1 f2 f3 f4 f5 x y z w l acc hacc hi hl k (j + 2) m _ (by omega) (by omega) (by simp only [List.length_append,List.length_cons,List.length_nil];omega),get_drop l0,get_drop l1,tbl]
theorem rgk0 {N:Nat} (hN:5000 <= N) (s:Str) (x1 x2 x3 x4 x5:Int) (hI:∀ x ∈ [3,x1,x2,x3,x4,x5],I64 x) (L:List Str) (hL:L.length <= 1000) (hp:∀ x ∈ L,x.length <= 1000):∀ (k i m:Nat) (acc:List Rn),i + k=L.length->k < m->acc.length=i->okRs acc ->
  L_ref23_GetBlock_0 N m s (i:Int) 0 0 0 0 0 0 0 0 0 0 0 11 L x1 x2 x3 x4 x5 [] [] acc=some (flk2 (kfin s x1 x2 x3 x4 x5 (rr (L.drop i) acc)))
 | k,i,0,acc,_,h,_,_=>by omega
 | 0,i,m + 1,acc,hi,_,ha,hok=>by
  rw [rgk0_s]
  unfold B_ref23_GetBlock_0
  rw [q_iff (decide_eq_false (by omega)),q_gl,List.drop_of_length_le (by omega)]
  have ok:okK (x1,(x2,(x3,(x4,(x5,acc))))):=⟨hI,by show acc.length <= _;omega,hok⟩
  rw [rBlock hN ok,q_bd]
  show _=some (flk2 (if encK (x1,(x2,(x3,(x4,(x5,acc)))))=s then ((x1,(x2,(x3,(x4,(x5,acc))))),0) else (bkz,11)))
  by_cases he:encK (x1,(x2,(x3,(x4,(x5,acc)))))=s
  ·rw [q_nb he,q_if0,q_gl,if_pos he];rfl
  ·rw [q_nbn he,q_if1,q_gl,if_neg he];rfl
 | k + 1,i,m + 1,acc,hi,hm,ha,hok=>by
  have hlt:i < L.length:=by omega
  have p2:=hp _ (List.getElem_mem hlt)
  rw [rgk0_s]
  unfold B_ref23_GetBlock_0
  rw [q_ift (decide_eq_true (by omega)),q_gg (List.getElem?_eq_getElem hlt),rGetInts _ (by omega) (by omega) (by omega),q_bd,get_drop hlt,rr]
  unfold swp
  dsimp only
  generalize hg:L[i]=p at *
  by_cases e:(gints p).2.2=0
  ·have hl:(gints p).1.length <= p.length:=by
    rcases gints_ok p with ⟨_,u,_,_,h3,_⟩ | g
    ·exact h3
    ·exact absurd e g
   rw [ne_f e,q_if0]
   by_cases h4:4 <= (gints p).1.length
   ·rw [q_iff (decide_eq_false (by omega)),q_gl,q_gl,q_gl,q_gl,q_gl,q_bd]
    dsimp only
    have e4:Int.tmod ((gints p).1.length:Int) 2=(((gints p).1.length % 2:Nat):Int):=by rw [show (2:Int)=((2:Nat):Int) from rfl,<- Int.ofNat_tmod]
    by_cases h2:(gints p).1.length % 2=0
    ·rw [if_pos ⟨e,h4,h2⟩,ne_f (show Int.tmod ((gints p).1.length:Int) 2=0 by rw [e4];omega),q_if0]
     rw [q_gnD (k:=0) (j:=0) rfl (by omega),q_gnD (k:=1) (j:=1) rfl (by omega),q_gnD (k:=2) (j:=2) rfl (by omega),q_gnD (k:=3) (j:=3) rfl (by omega),q_gl,q_gl,q_gl,q_gl,q_gl]
     rw [show (4:Int)=((4:Nat):Int) from rfl,rgk1 _ s L i x1 x2 x3 x4 x5 _ _ _ _ _ acc (by omega) (by omega) (by omega) (((gints p).1.length - 4) / 2) 4 N [] (by omega) (by omega) (by rw [List.length_nil];omega)]
     refine rgk0 hN s x1 x2 x3 x4 x5 hI L hL hp k (i + 1) m _ (by omega) (by omega) (by simp only [List.length_append,List.length_cons,List.length_nil];omega) fun x hx=>?_
     rcases List.mem_append.1 hx with hx | hx
     ·exact hok x hx
     ·rw [List.mem_singleton.1 hx];exact rnD_ok p2 e h4 h2
    ·rw [if_neg (fun q=>h2 q.2.2),ne_t (show Int.tmod ((gints p).1.length:Int) 2 ≠ 0 by rw [e4];omega),q_if1,q_gl];rfl
   ·rw [q_ift (decide_eq_true (by omega)),q_gl,q_gl,q_gl,q_gl,q_gl,q_bd]
    dsimp only
    rw [q_if1,q_gl,if_neg (fun q=>h4 q.2.1)];rfl
  ·rw [ne_t e,q_if1,q_gl,q_gl,q_gl,q_gl,q_gl,q_bd]
   dsimp only
   rw [q_if1,q_gl,if_neg (fun q=>e q.1)];rfl
theorem gbl_z {s:Str} (h:(gbl s).2 ≠ 0):gbl s=(bkz,11):=by
 rcases gbl_e s with g | g
 ·exact absurd g h
 ·exact g
theorem gK {b:Bk} (ok:okK b):gints (encK b)=(bl b,((encI (bl b)).length:Int),0)/\(gstrs ((encK b).drop (encI (bl b)).length)).1=(brs b).map (fun r=>encI (rnI r))/\(gstrs ((encK b).drop (encI (bl b)).length)).2.2=0:=by
 have hs:=(encK_g ok).1
 obtain ⟨h1,h2,h3⟩:=ok
 have e:=gstrs_enc (l:=(brs b).map fun r=>encI (rnI r)) (fun x hx=>by have:=hs x hx;omega) (by rw [List.length_map];omega) []
 rw [List.append_nil] at e
 refine ⟨gints_enc h1 (by show 6 <= _;omega) _,?_⟩
 unfold encK
 rw [drop_app,e]
 exact ⟨rfl,rfl⟩
theorem rGetBlock {N:Nat} (s:Str) (hN:5000 <= N) (hb:s.length <= 1000):G_ref23_GetBlock N s=some (flk2 (gbl s)):=by
 have neg:∀ P:Prop,(∀ v,okK v->s=encK v->gbl s=(v,0)->¬P)->P->gbl s=(bkz,11):=fun P h hP=>gbl_z fun h0=>by
  obtain ⟨g1,g2⟩:=gbl_can hb h0
  exact h _ g2 g1 (by rw [<- h0]) hP
 unfold G_ref23_GetBlock
 rw [rGetInts s (by omega) (by omega) (by omega),q_bd]
 unfold swp
 dsimp only
 rcases gints_ok s with ⟨e,u,h1,h2,h3,h4⟩ | g
 ·rw [ne_f e,q_if0,q_gl,q_bd]
  dsimp only
  by_cases hl:(gints s).1.length=6
  ·rw [ne_f (show ((gints s).1.length:Int)=6 by omega),q_if0,h1,q_gdT (by omega),Int.toNat_natCast,q_gdT h2,q_gdT (Nat.le_refl _),str_tail,rGetStrings _ (by omega) (by rw [List.length_drop];omega) (by rw [List.length_drop];omega),q_bd]
   unfold swp
   dsimp only
   rcases gstrs_ok (s.drop u) with ⟨e',u',g1,g2,g3,g4⟩ | g
   ·rw [List.length_drop] at g3
    rw [ne_f e',q_if0]
    have hV:∀ v,okK v->s=encK v->gints s=(bl v,(u:Int),0)/\(gstrs (s.drop u)).1=(brs v).map (fun r=>encI (rnI r)):=fun v ok hv=>by
     obtain ⟨i1,i2,i3⟩:=gK ok
     rw [<- hv] at i1 i2
     have hu:u=(encI (bl v)).length:=by rw [i1] at h1;exact (Int.ofNat.inj h1).symm
     rw [<- hu] at i1 i2
     exact ⟨i1,i2⟩
    have h8:=list6 hl
    have hI:=h4
    generalize hG:(gstrs (s.drop u)).1=L at *
    rw [h8] at hI |-
    have hVL:∀ v,okK v->s=encK v->(gints s).1=bl v:=fun v ok hv=>by rw [(hV v ok hv).1]
    rw [h8] at hVL
    generalize (gints s).1.getD 0 0=a0 at *
    generalize (gints s).1.getD 1 0=a1 at *
    generalize (gints s).1.getD 2 0=a2 at *
    generalize (gints s).1.getD 3 0=a3 at *
    generalize (gints s).1.getD 4 0=a4 at *
    generalize (gints s).1.getD 5 0=a5 at *
    show gl? L.length L (L_ref23_GetBlock_0 N N s ((0:Nat):Int) 0 0 0 0 0 0 0 0 0 0 0 11 L a1 a2 a3 a4 a5 [] [] [])=_
    rw [q_gl]
    have hI':∀ x ∈ [3,a1,a2,a3,a4,a5],I64 x:=fun x hx=>by
     rcases List.mem_cons.1 hx with rfl | hx
     ·exact ⟨by decide,by decide⟩
     ·exact hI x (List.mem_cons.2 (.inr hx))
    have hp:∀ x ∈ L,x.length <= 1000:=fun x hx=>by
     have:=g4 x hx
     rw [List.length_drop] at this
     omega
    rw [rgk0 hN s a1 a2 a3 a4 a5 hI' L (by omega) hp L.length 0 N [] (by omega) (by omega) rfl (fun p hp=>(List.not_mem_nil hp).elim),List.drop_zero]
    refine congrArg (fun x=>some (flk2 x)) ?_
    cases hq:rr L [] with
    | none =>
     refine (neg True (fun v ok hv _ _=>?_) trivial).symm
     have:=(hV v ok hv).2
     rw [this,rr_enc _ _ ok.2.2] at hq
     cases hq
    | some q =>
     obtain ⟨q1,q2⟩:=rr_ok L [] q (fun p hp=>(List.not_mem_nil hp).elim) hp hq
     have ok:okK (a1,(a2,(a3,(a4,(a5,q))))):=⟨hI',by show q.length <= _;rw [q2,List.length_nil];omega,q1⟩
     unfold kfin
     dsimp only
     by_cases he:encK (a1,(a2,(a3,(a4,(a5,q)))))=s
     ·rw [if_pos he,<- he,gbl_enc ok]
     ·rw [if_neg he]
      refine (neg True (fun v okv hv _ _=>he ?_) trivial).symm
      have e1:=hVL v okv hv
      have e2:=(hV v okv hv).2
      rw [e2,rr_enc _ _ okv.2.2,List.nil_append] at hq
      have e3:=Option.some.inj hq
      rw [hv]
      have e5:bl (a1,(a2,(a3,(a4,(a5,q)))))=bl v:=by
       show 3 :: _=3 :: _
       exact congrArg (fun t=>3 :: t) (congrArg List.tail e1)
      unfold encK
      rw [e5,<- e3]
   ·rw [ne_t g,q_if1,q_gl,neg ((gstrs (s.drop u)).2.2 ≠ 0) (fun v ok hv _ h=>h (by
     obtain ⟨i1,i2,i3⟩:=gK ok
     rw [<- hv] at i1 i3
     have hu:u=(encI (bl v)).length:=by rw [i1] at h1;exact (Int.ofNat.inj h1).symm
     rw [hu];exact i3)) g]
    rfl
  ·rw [ne_t (show ((gints s).1.length:Int) ≠ 6 by omega),q_if1,q_gl,neg ((gints s).1.length ≠ 6) (fun v ok hv _ h=>h (by rw [hv,(gK ok).1];rfl)) hl]
   rfl
 ·rw [ne_t g,q_if1,q_gl,q_bd]
  dsimp only
  rw [q_if1,q_gl,neg ((gints s).2.2 ≠ 0) (fun v ok hv _ h=>h (by rw [hv,(gK ok).1])) g]
  rfl
end Go.Proofs.Tryz

set_option maxRecDepth 8000
set_option linter.all false
set_option synthInstance.maxSize 100000
set_option synthInstance.maxHeartbeats 400000
namespace Go.Proofs.Tryz
open Go.Eng Go.RowKit Go.Lib
def lp (y:Int):Bool:=decide (Int.tmod y 400=0\/(Int.tmod y 4=0/\Int.tmod y 100 ≠ 0))
def dy (b:Bool):Int:=if b then 366 else 365
theorem c_Leap (N:Nat) (y:Int):G_calendar_Leap N y=some (lp y):=by
 unfold G_calendar_Leap lp
 by_cases h4:Int.tmod y 4=0
 ·rw [eq_t h4,q_if1]
  by_cases h1:Int.tmod y 100=0
  ·rw [ne_f h1,q_if0,q_bd]
   refine congrArg some ?_
   rw [Bool.eq_iff_iff,beq_iff_eq,decide_eq_true_eq]
   omega
  ·rw [ne_t h1,q_if1,q_bd,decide_eq_true (.inr ⟨h4,h1⟩)]
 ·rw [eq_f h4,q_if0,q_bd]
  refine congrArg some ?_
  rw [Bool.eq_iff_iff,beq_iff_eq,decide_eq_true_eq]
  omega
theorem r_Leap (N:Nat) (y:Int):G_ref06_Leap N y=some (lp y):=by
 unfold G_ref06_Leap lp
 by_cases h0:Int.tmod y 400=0
 ·rw [eq_t h0,q_if1,decide_eq_true (.inl h0)]
 ·rw [eq_f h0,q_if0]
  by_cases h4:Int.tmod y 4=0
  ·rw [eq_t h4,q_if1,q_bd]
   refine congrArg some ?_
   rw [Bool.eq_iff_iff,bne_iff_ne,decide_eq_true_eq]
   omega
  ·rw [eq_f h4,q_if0,q_bd,decide_eq_false (by omega)]
theorem c_days (N:Nat) (y:Int):G_calendar_days N y=some (dy (lp y)):=by
 unfold G_calendar_days
 rw [c_Leap,q_bd]
 cases lp y <;> rfl
theorem r_days (N:Nat) (y:Int):G_ref06_Days N y=some (dy (lp y)):=by
 unfold G_ref06_Days
 rw [r_Leap,q_bd]
 cases lp y <;> rfl
def ml (b:Bool):Nat->Int
 | 2=>if b then 29 else 28
 | 4=>30
 | 6=>30
 | 9=>30
 | 11=>30
 | _=>31
theorem c_len (N:Nat) (y:Int) (m:Nat) (h1:1 <= m) (h2:m <= 12):G_calendar_length N y (m:Int)=some (ml (lp y) m):=by
 unfold G_calendar_length
 rw [c_Leap]
 rcases (by omega:m=1\/m=2\/m=3\/m=4\/m=5\/m=6\/m=7\/m=8\/m=9\/m=10\/m=11\/m=12) with h | h | h | h | h | h | h | h | h | h | h | h <;> subst h <;> cases lp y <;> rfl
theorem r_len (N:Nat) (y:Int) (m:Nat) (h1:1 <= m) (h2:m <= 12):G_ref06_Length N y (m:Int)=some (ml (lp y) m):=by
 unfold G_ref06_Length
 rw [r_Leap]
 rcases (by omega:m=1\/m=2\/m=3\/m=4\/m=5\/m=6\/m=7\/m=8\/m=9\/m=10\/m=11\/m=12) with h | h | h | h | h | h | h | h | h | h | h | h <;> subst h <;> cases lp y <;> rfl
def R (b:Bool):Nat->Int
 | 0=>0
 | k + 1=>ml b (12 - k) + R b k
theorem R_12 (b:Bool):R b 12=dy b:=by cases b <;> rfl
theorem ml_pos (b:Bool) (m:Nat):28 <= ml b m/\ml b m <= 31:=by
 unfold ml
 split <;> (try split) <;> omega
theorem c1_s (N m:Nat):L_calendar_Date_1 N (m + 1)=B_calendar_Date_1 N (L_calendar_Date_1 N m):=rfl
theorem c0_s (N m:Nat):L_calendar_Date_0 N (m + 1)=B_calendar_Date_0 N (L_calendar_Date_0 N m):=rfl
theorem r1_s (N m:Nat):L_ref06_Date_1 N (m + 1)=B_ref06_Date_1 N (L_ref06_Date_1 N m):=rfl
theorem r0_s (N m:Nat):L_ref06_Date_0 N (m + 1)=B_ref06_Date_0 N (L_ref06_Date_0 N m):=rfl
theorem c_mon (N:Nat) (y:Int):∀ (k m f:Nat) (d:Int),m + k=13->1 <= m->0 <= d->d < 1000->d < R (lp y) k->k < f->∃ r,L_calendar_Date_1 N f d y (m:Int)=some (y,r)
 | k,m,0,d,_,_,_,_,_,h=>by omega
 | 0,m,f + 1,d,_,_,h0,_,h,_=>by have:d < 0:=h;omega
 | k + 1,m,f + 1,d,hm,h1,h0,hd,h,hf=>by
  have hp:=ml_pos (lp y) m
  rw [c1_s]
  unfold B_calendar_Date_1
  rw [c_len N y m h1 (by omega),q_bd]
  by_cases hh:d ≥ ml (lp y) m
  ·rw [q_ift (decide_eq_true hh),q_bd,q_ck (by omega) (by omega),q_ck (by omega) (by omega),show ((m:Int) + 1)=((m + 1:Nat):Int) by omega]
   have e:R (lp y) (k + 1)=ml (lp y) m + R (lp y) k:=by show ml (lp y) (12 - k) + _=_;rw [show 12 - k=m by omega]
   exact c_mon N y k (m + 1) f _ (by omega) (by omega) (by omega) (by omega) (by omega) (by omega)
  ·rw [q_iff (decide_eq_false hh),q_ck (by omega) (by omega)]
   exact ⟨_,rfl⟩
theorem r_mon (N:Nat) (y:Int):∀ (k m f:Nat) (d:Int),m + k=13->1 <= m->0 <= d->d < 1000->d < R (lp y) k->k < f->∃ r,L_ref06_Date_1 N f d 0 0 0 0 y (m:Int) 0 0=some (y,r)
 | k,m,0,d,_,_,_,_,_,h=>by omega
 | 0,m,f + 1,d,_,_,h0,_,h,_=>by have:d < 0:=h;omega
 | k + 1,m,f + 1,d,hm,h1,h0,hd,h,hf=>by
  have hp:=ml_pos (lp y) m
  rw [r1_s]
  unfold B_ref06_Date_1
  rw [r_len N y m h1 (by omega),q_bd]
  by_cases hh:d ≥ ml (lp y) m
  ·rw [q_ift (decide_eq_true hh),q_bd,q_ck (by omega) (by omega),q_ck (by omega) (by omega),show ((m:Int) + 1)=((m + 1:Nat):Int) by omega]
   have e:R (lp y) (k + 1)=ml (lp y) m + R (lp y) k:=by show ml (lp y) (12 - k) + _=_;rw [show 12 - k=m by omega]
   exact r_mon N y k (m + 1) f _ (by omega) (by omega) (by omega) (by omega) (by omega) (by omega)
  ·rw [q_iff (decide_eq_false hh),q_ck (by omega) (by omega)]
   exact ⟨_,rfl⟩
def yr:Nat->Int->Int->Int
 | 0,y,_=>y
 | n + 1,y,d=>if d ≥ dy (lp y) then yr n (y + 1) (d - dy (lp y)) else y
theorem dy_b (b:Bool):365 <= dy b/\dy b <= 366:=by cases b <;> decide
theorem c_yr {N:Nat} (hN:20 <= N):∀ (n f:Nat) (y d:Int),0 <= y->y + n <= 1000000->0 <= d->d < 365 * n->n < f->n <= 10000->∃ r,L_calendar_Date_0 N f d y 1=some (yr n y d,r)
 | n,0,y,d,_,_,_,_,h,_=>by omega
 | 0,f + 1,y,d,_,_,h0,h,_,_=>by omega
 | n + 1,f + 1,y,d,hy,hyn,h0,h,hf,hn=>by
  obtain ⟨b1,b2⟩:=dy_b (lp y)
  rw [c0_s,yr]
  unfold B_calendar_Date_0
  rw [c_days,q_bd]
  by_cases hh:d ≥ dy (lp y)
  ·rw [q_ift (decide_eq_true hh),q_bd,q_ck (by omega) (by omega),q_ck (by omega) (by omega),if_pos hh]
   exact c_yr hN n f _ _ (by omega) (by omega) (by omega) (by omega) (by omega) (by omega)
  ·rw [q_iff (decide_eq_false hh),if_neg hh]
   exact c_mon N y 12 1 N d rfl (by omega) h0 (by omega) (by rw [R_12];omega) (by omega)
theorem r_yr {N:Nat} (hN:20 <= N):∀ (n f:Nat) (y d:Int),0 <= y->y + n <= 1000000->0 <= d->d < 365 * n->n < f->n <= 10000->∃ r,L_ref06_Date_0 N f d 0 0 0 0 y 1 0 0=some (yr n y d,r)
 | n,0,y,d,_,_,_,_,h,_=>by omega
 | 0,f + 1,y,d,_,_,h0,h,_,_=>by omega
 | n + 1,f + 1,y,d,hy,hyn,h0,h,hf,hn=>by
  obtain ⟨b1,b2⟩:=dy_b (lp y)
  rw [r0_s,yr]
  unfold B_ref06_Date_0
  rw [r_days,q_bd]
  by_cases hh:d ≥ dy (lp y)
  ·rw [q_ift (decide_eq_true hh),q_bd,q_ck (by omega) (by omega),q_ck (by omega) (by omega),if_pos hh]
   exact r_yr hN n f _ _ (by omega) (by omega) (by omega) (by omega) (by omega) (by omega)
  ·rw [q_iff (decide_eq_false hh),if_neg hh]
   exact r_mon N y 12 1 N d rfl (by omega) h0 (by omega) (by rw [R_12];omega) (by omega)
def cy (d:Int):Int:=if d < 0\/d > 14609 then 0 else yr 41 2000 d
theorem c_Date {N:Nat} (hN:100 <= N) (d:Int):∃ r,G_calendar_Date N d=some (cy d,r):=by
 unfold G_calendar_Date cy
 by_cases h:d < 0
 ·rw [q_ift (decide_eq_true h),q_bd,if_pos (.inl h)]
  exact ⟨_,rfl⟩
 ·rw [q_iff (decide_eq_false h),q_bd]
  by_cases h':d > 14609
  ·rw [q_ift (decide_eq_true h'),if_pos (.inr h')]
   exact ⟨_,rfl⟩
  ·rw [q_iff (decide_eq_false h'),if_neg (by omega)]
   exact c_yr (by omega) 41 N 2000 d (by omega) (by omega) (by omega) (by omega) (by omega) (by omega)
theorem r_Date {N:Nat} (hN:100 <= N) (d:Int):∃ r,G_ref06_Date N d=some (cy d,r):=by
 unfold G_ref06_Date cy
 by_cases h:d < 0
 ·rw [q_ift (decide_eq_true h),q_bd,if_pos (.inl h)]
  exact ⟨_,rfl⟩
 ·rw [q_iff (decide_eq_false h),q_bd]
  by_cases h':d > 14609
  ·rw [q_ift (decide_eq_true h'),if_pos (.inr h')]
   exact ⟨_,rfl⟩
  ·rw [q_iff (decide_eq_false h'),if_neg (by omega)]
   exact r_yr (by omega) 41 N 2000 d (by omega) (by omega) (by omega) (by omega) (by omega) (by omega)
end Go.Proofs.Tryz

set_option maxRecDepth 8000
set_option linter.all false
set_option synthInstance.maxSize 100000
set_option synthInstance.maxHeartbeats 400000
namespace Go.Proofs.Tryz
open Go.Eng Go.RowKit Go.Lib
def pl (g t:Int):Int × (Int × Int):=if g < 0\/g ≥ 40\/t < 0\/t ≥ 1402560 then (0,(0,3)) else (g,(cy (Int.tdiv t 96),0))
def wh (s:Str):Int × (Int × Int) :=
 if (grd s).2=0 then pl (grd s).1.1 (grd s).1.2.2.1
 else if (gvr s).2=0 then pl (gvr s).1.2.1 (gvr s).1.2.2.2.2.1
 else if (gbl s).2=0 then pl (gbl s).1.1 (gbl s).1.2.2.1
 else (0,(0,11))
theorem pl_go {N:Nat} (hN:100 <= N) (g t:Int) {γ:Type} (K:Int × (Int × Int)->Option γ) :
  (bd? (if? (decide (g < 0)) (some (g,t,true)) (if? (decide (g ≥ 40)) (some (g,t,true)) (if? (decide (t < 0)) (some (g,t,true)) (some (g,t,decide (t ≥ 1402560)))))) fun w7=>if? (w7.2.2) (K (0,(0,3))) (ck .i64 (Int.tdiv w7.2.1 96) (bd? (G_calendar_Date N (Int.tdiv w7.2.1 96)) fun v8=>K (w7.1,(v8.1,0)))))=K (pl g t):=by
 unfold pl
 by_cases h1:g < 0
 ·rw [q_ift (decide_eq_true h1),q_bd,if_pos (.inl h1)];rfl
 ·rw [q_iff (decide_eq_false h1)]
  by_cases h2:g ≥ 40
  ·rw [q_ift (decide_eq_true h2),q_bd,if_pos (.inr (.inl h2))];rfl
  ·rw [q_iff (decide_eq_false h2)]
   by_cases h3:t < 0
   ·rw [q_ift (decide_eq_true h3),q_bd,if_pos (.inr (.inr (.inl h3)))];rfl
   ·rw [q_iff (decide_eq_false h3),q_bd]
    dsimp only
    by_cases h4:t ≥ 1402560
    ·rw [q_ift (decide_eq_true h4),if_pos (.inr (.inr (.inr h4)))]
    ·have hd:0 <= Int.tdiv t 96/\Int.tdiv t 96 <= t:=by
      obtain ⟨n,rfl⟩:=Int.eq_ofNat_of_zero_le (show 0 <= t by omega)
      rw [show (96:Int)=((96:Nat):Int) from rfl,<- Int.ofNat_tdiv]
      omega
     obtain ⟨r,hr⟩:=c_Date hN (Int.tdiv t 96)
     rw [q_iff (decide_eq_false h4),if_neg (by omega),q_ck (by omega) (by omega),hr,q_bd]
theorem r_place {N:Nat} (hN:100 <= N) (g t:Int):G_ref23_place N g t=some (pl g t):=by
 unfold G_ref23_place pl
 by_cases h1:g < 0
 ·rw [q_ift (decide_eq_true h1),q_bd,if_pos (.inl h1)];rfl
 ·rw [q_iff (decide_eq_false h1)]
  by_cases h2:g > 39
  ·rw [q_ift (decide_eq_true h2),q_bd,if_pos (.inr (.inl (by omega)))];rfl
  ·rw [q_iff (decide_eq_false h2)]
   by_cases h3:t < 0
   ·rw [q_ift (decide_eq_true h3),q_bd,if_pos (.inr (.inr (.inl h3)))];rfl
   ·rw [q_iff (decide_eq_false h3),q_bd]
    dsimp only
    by_cases h4:t ≥ 1402560
    ·rw [q_ift (decide_eq_true h4),if_pos (.inr (.inr (.inr h4)))]
    ·have hd:0 <= Int.tdiv t 96/\Int.tdiv t 96 <= t:=by
      obtain ⟨n,rfl⟩:=Int.eq_ofNat_of_zero_le (show 0 <= t by omega)
      rw [show (96:Int)=((96:Nat):Int) from rfl,<- Int.ofNat_tdiv]
      omega
     obtain ⟨r,hr⟩:=r_Date hN (Int.tdiv t 96)
     rw [q_iff (decide_eq_false h4),if_neg (by omega),q_ck (by omega) (by omega),hr,q_bd]
theorem lw_s (N m:Nat):L_leaf_Where_0 N (m + 1)=B_leaf_Where_0 N (L_leaf_Where_0 N m):=rfl
theorem k_1 {N:Nat} (s:Str) (hN:5000 <= N) (hb:s.length <= 1000):G_leaf_kinds_1 N s=some ((grd s).1.1,((grd s).1.2.2.1,(grd s).2)):=by
 unfold G_leaf_kinds_1
 rw [GetReading_eq s (by omega) (by omega) (by omega),q_bd]
theorem k_2 {N:Nat} (s:Str) (hN:5000 <= N) (hb:s.length <= 1000):G_leaf_kinds_2 N s=some ((gvr s).1.2.1,((gvr s).1.2.2.2.2.1,(gvr s).2)):=by
 unfold G_leaf_kinds_2
 rw [GetVersion_eq s (by omega) (by omega) (by omega),q_bd]
 rfl
theorem k_3 {N:Nat} (s:Str) (hN:5000 <= N) (hb:s.length <= 1000):G_leaf_kinds_3 N s=some ((gbl s).1.1,((gbl s).1.2.2.1,(gbl s).2)):=by
 unfold G_leaf_kinds_3
 rw [GetBlock_eq s (by omega) (by omega) (by omega),q_bd]
 rfl
theorem Where_eq {N:Nat} (s:Str) (hN:5000 <= N) (hb:s.length <= 1000):G_leaf_Where N s=some (wh s):=by
 obtain ⟨m,rfl⟩:∃ m,N=m + 4:=⟨N - 4,by omega⟩
 generalize hM:m + 4=M at *
 unfold G_leaf_Where G_leaf_kinds
 rw [q_bd]
 have e3:L_leaf_Where_0 M (m + 1) s 3=some (0,(0,11)):=by
  rw [lw_s];rfl
 have e2:L_leaf_Where_0 M (m + 2) s 2=some (if (gbl s).2=0 then pl (gbl s).1.1 (gbl s).1.2.2.1 else (0,(0,11))):=by
  rw [lw_s]
  unfold B_leaf_Where_0
  rw [q_ift (by rfl),q_iff (by rfl),q_iff (by rfl),q_ift (by rfl),k_3 s hN hb,q_bd]
  dsimp only
  by_cases h:(gbl s).2=0
  ·rw [ne_f h,q_if0,if_pos h,pl_go (by omega) _ _ (fun x=>inl? (some x)),q_inl,q_jl]
  ·rw [ne_t h,q_if1,if_neg h,q_jr]
   exact (q_ck (n:=2 + 1) (by decide) (by decide)).trans e3
 have e1:L_leaf_Where_0 M (m + 3) s 1=some (if (gvr s).2=0 then pl (gvr s).1.2.1 (gvr s).1.2.2.2.2.1 else if (gbl s).2=0 then pl (gbl s).1.1 (gbl s).1.2.2.1 else (0,(0,11))):=by
  rw [lw_s]
  unfold B_leaf_Where_0
  rw [q_ift (by rfl),q_iff (by rfl),q_ift (by rfl),k_2 s hN hb,q_bd]
  dsimp only
  by_cases h:(gvr s).2=0
  ·rw [ne_f h,q_if0,if_pos h,pl_go (by omega) _ _ (fun x=>inl? (some x)),q_inl,q_jl]
  ·rw [ne_t h,q_if1,if_neg h,q_jr]
   exact (q_ck (n:=1 + 1) (by decide) (by decide)).trans e2
 have e0:L_leaf_Where_0 M (m + 4) s 0=some (wh s):=by
  rw [lw_s]
  unfold B_leaf_Where_0
  rw [q_ift (by rfl),q_ift (by rfl),k_1 s hN hb,q_bd]
  unfold wh
  dsimp only
  by_cases h:(grd s).2=0
  ·rw [ne_f h,q_if0,if_pos h,pl_go (by omega) _ _ (fun x=>inl? (some x)),q_inl,q_jl]
  ·rw [ne_t h,q_if1,if_neg h,q_jr]
   exact (q_ck (n:=0 + 1) (by decide) (by decide)).trans e1
 rw [hM] at e0
 exact e0
theorem rWhere {N:Nat} (s:Str) (hN:5000 <= N) (hb:s.length <= 1000):G_ref23_Where N s=some (wh s):=by
 unfold G_ref23_Where wh
 rw [rGetReading s (by omega) (by omega) (by omega),q_bd]
 by_cases h:(grd s).2=0
 ·rw [eq_t h,q_if1,r_place (by omega),q_bd,if_pos h]
 ·rw [eq_f h,q_if0,if_neg h,rGetVersion s (by omega) (by omega) (by omega),q_bd]
  unfold fl2
  dsimp only
  by_cases h:(gvr s).2=0
  ·rw [eq_t h,q_if1,r_place (by omega),q_bd,if_pos h]
  ·rw [eq_f h,q_if0,if_neg h,rGetBlock s (by omega) (by omega),q_bd]
   unfold flk2
   dsimp only
   by_cases h:(gbl s).2=0
   ·rw [eq_t h,q_if1,r_place (by omega),q_bd,if_pos h]
   ·rw [eq_f h,q_if0,if_neg h]
theorem fp_s (m:Nat):L_ref14_FewPoints_0 (m + 1)=B_ref14_FewPoints_0 (L_ref14_FewPoints_0 m):=rfl
theorem fp_loop (l:List Pt) (hl:l.length <= 20):∀ (k i m:Nat),i + k=l.length->k < m->∃ b,L_ref14_FewPoints_0 m (i:Int) l=some b/\(b=true->∀ p ∈ l.drop i,p.2.2.1.length <= 12/\p.2.2.2.length <= 12)
 | k,i,0,_,h=>by omega
 | 0,i,m + 1,hi,_=>by
  rw [fp_s]
  unfold B_ref14_FewPoints_0
  rw [q_iff (decide_eq_false (by omega)),List.drop_of_length_le (by omega)]
  exact ⟨_,rfl,fun _ p hp=>(List.not_mem_nil hp).elim⟩
 | k + 1,i,m + 1,hi,hm=>by
  have hlt:i < l.length:=by omega
  obtain ⟨b,h1,h2⟩:=fp_loop l hl k (i + 1) m (by omega) (by omega)
  rw [fp_s]
  unfold B_ref14_FewPoints_0
  rw [q_ift (decide_eq_true (by omega)),q_get (List.getElem?_eq_getElem hlt),get_drop hlt]
  by_cases ha:l[i].2.2.1.length <= 12
  ·rw [q_iff (decide_eq_false (by omega)),q_get (List.getElem?_eq_getElem hlt),q_bd]
   dsimp only
   by_cases hc:l[i].2.2.2.length <= 12
   ·rw [q_iff (decide_eq_false (by omega)),q_ck (by omega) (by omega),show ((i:Int) + 1)=((i + 1:Nat):Int) by omega,h1]
    refine ⟨b,rfl,fun hb p hp=>?_⟩
    rcases List.mem_cons.1 hp with rfl | hp
    ·exact ⟨ha,hc⟩
    ·exact h2 hb p hp
   ·rw [q_ift (decide_eq_true (by omega))]
    exact ⟨_,rfl,fun h=>by cases h⟩
  ·rw [q_ift (decide_eq_true (by omega)),q_bd]
   exact ⟨_,rfl,fun h=>by cases h⟩
theorem fb_s (m:Nat):L_ref23_FewBlock_0 (m + 1)=B_ref23_FewBlock_0 (L_ref23_FewBlock_0 m):=rfl
theorem fb_loop (l:List Rn) (hl:l.length <= 12) (f1 f2 f3 f4 f5:Int):∀ (k i m:Nat),i + k=l.length->k < m->∃ b,L_ref23_FewBlock_0 m (i:Int) f1 f2 f3 f4 f5 l=some b/\(b=true->∀ p ∈ l.drop i,p.2.2.1.length <= 20)
 | k,i,0,_,h=>by omega
 | 0,i,m + 1,hi,_=>by
  rw [fb_s]
  unfold B_ref23_FewBlock_0
  rw [q_iff (decide_eq_false (by omega)),List.drop_of_length_le (by omega)]
  exact ⟨_,rfl,fun _ p hp=>(List.not_mem_nil hp).elim⟩
 | k + 1,i,m + 1,hi,hm=>by
  have hlt:i < l.length:=by omega
  obtain ⟨b,h1,h2⟩:=fb_loop l hl f1 f2 f3 f4 f5 k (i + 1) m (by omega) (by omega)
  rw [fb_s]
  unfold B_ref23_FewBlock_0
  rw [q_ift (decide_eq_true (by omega)),q_get (List.getElem?_eq_getElem hlt),get_drop hlt]
  by_cases ha:l[i].2.2.1.length <= 20
  ·rw [q_iff (decide_eq_false (by omega)),q_ck (by omega) (by omega),show ((i:Int) + 1)=((i + 1:Nat):Int) by omega,h1]
   refine ⟨b,rfl,fun hb p hp=>?_⟩
   rcases List.mem_cons.1 hp with rfl | hp
   ·exact ha
   ·exact h2 hb p hp
  ·rw [q_ift (decide_eq_true (by omega))]
   exact ⟨_,rfl,fun h=>by cases h⟩
def smallP (v:Vr) (b:Bk):Prop:=(vp v).length <= 20/\(∀ p ∈ vp v,p.2.2.1.length <= 12/\p.2.2.2.length <= 12)/\(brs b).length <= 12/\∀ r ∈ brs b,r.2.2.1.length <= 20
theorem small_eq {N:Nat} (hN:100 <= N) (v:Vr) (b:Bk):∃ c,G_law23_small N v b=some c/\(c=true->smallP v b):=by
 unfold G_law23_small G_ref14_FewPoints
 by_cases h:(vp v).length <= 20
 ·obtain ⟨c,h1,h2⟩:=fp_loop (vp v) h (vp v).length 0 N (by omega) (by omega)
  rw [q_iff (decide_eq_false (by show ¬(((vp v).length:Int) > 20);omega)),show (0:Int)=((0:Nat):Int) from rfl,h1,q_bd]
  cases c with
  | false=>exact ⟨false,rfl,fun h=>by cases h⟩
  | true =>
   rw [q_if1]
   unfold G_ref23_FewBlock
   by_cases h':(brs b).length <= 12
   ·obtain ⟨c,g1,g2⟩:=fb_loop (brs b) h' b.1 b.2.1 b.2.2.1 b.2.2.2.1 b.2.2.2.2.1 (brs b).length 0 N (by omega) (by omega)
    rw [q_iff (decide_eq_false (by show ¬(((brs b).length:Int) > 12);omega))]
    refine ⟨c,?_,fun hc=>⟨h,h2 rfl,h',g2 hc⟩⟩
    show bd? (bd? (L_ref23_FewBlock_0 N ((0:Nat):Int) b.1 b.2.1 b.2.2.1 b.2.2.2.1 b.2.2.2.2.1 (brs b)) _) _=_
    rw [g1,q_bd,q_bd]
   ·rw [q_ift (decide_eq_true (by show ((brs b).length:Int) > 12;omega))]
    exact ⟨false,rfl,fun h=>by cases h⟩
 ·rw [q_ift (decide_eq_true (by show ((vp v).length:Int) > 20;omega))]
  exact ⟨false,rfl,fun h=>by cases h⟩
end Go.Proofs.Tryz

set_option maxRecDepth 8000
set_option linter.all false
set_option synthInstance.maxSize 100000
set_option synthInstance.maxHeartbeats 400000
namespace Go.Proofs.Tryz
open Go.Eng Go.RowKit Go.Lib
theorem gvr_okV {s:Str} (hs:s.length <= 1000):okV (gvr s).1:=by
 by_cases h:(gvr s).2=0
 ·exact (gvr_can (by omega) h).2
 ·rw [gvr_z h]
  refine ⟨fun x hx=>?_,Nat.zero_le _,fun p hp=>(List.not_mem_nil hp).elim⟩
  have:x=2\/x=0:=by
   have hx:x ∈ [2,0,0,0,0,0,0,(0:Int)]:=hx
   simp only [List.mem_cons,List.not_mem_nil,or_false] at hx
   omega
  rcases this with rfl | rfl <;> exact ⟨by decide,by decide⟩
theorem gbl_okK {s:Str} (hs:s.length <= 1000):okK (gbl s).1:=by
 by_cases h:(gbl s).2=0
 ·exact (gbl_can hs h).2
 ·rw [gbl_z h]
  refine ⟨fun x hx=>?_,Nat.zero_le _,fun p hp=>(List.not_mem_nil hp).elim⟩
  have:x=3\/x=0:=by
   have hx:x ∈ [3,0,0,0,0,(0:Int)]:=hx
   simp only [List.mem_cons,List.not_mem_nil,or_false] at hx
   omega
  rcases this with rfl | rfl <;> exact ⟨by decide,by decide⟩
theorem same_v {N:Nat} (hN:5000 <= N) {v:Vr} (h:okV v):G_ref23_SameVersion N v v=some true:=by
 unfold G_ref23_SameVersion
 have e:=rVersion (N:=N) (by omega) h (by have:=h.2.1;omega)
 show bd? (G_ref23_Version N v) (fun v3=>bd? (G_ref23_Version N v) fun v4=>some (v3 == v4))=_
 rw [e,q_bd,q_bd,beq_self_eq_true]
theorem same_k {N:Nat} (hN:5000 <= N) {v:Bk} (h:okK v):G_ref23_SameBlock N v v=some true:=by
 unfold G_ref23_SameBlock
 have e:=rBlock hN h
 show bd? (G_ref23_Block N v) (fun v3=>bd? (G_ref23_Block N v) fun v4=>some (v3 == v4))=_
 rw [e,q_bd,q_bd,beq_self_eq_true]
theorem q_nbb {x:Str}:(!(x == x))=false:=by simp
theorem q_nee {x:Int}:(x != x)=false:=by simp
theorem q_eqq {x:Int}:(x == x)=true:=by simp
abbrev Pk:=Rd × (Vr × Bk)
def okA (x:Pk):Prop:=okR x.1/\((∀ y ∈ vl x.2.1,I64 y)/\∀ p ∈ vp x.2.1,I64 p.1)/\(∀ y ∈ bl x.2.2,I64 y)/\∀ r ∈ brs x.2.2,∀ y ∈ rnI r,I64 y
theorem leaves_true {N:Nat} (hN:5000 <= N) (hsan:G_law23_sanity N=some true) (x:Pk) (s:Str) (hx:okA x):G_law23_LeavesAreAsSpecified N x s=some true:=by
 obtain ⟨hr,⟨hv1,hv2⟩,hb1,hb2⟩:=hx
 obtain ⟨c,hc1,hc2⟩:=small_eq (N:=N) (by omega) x.2.1 x.2.2
 unfold G_law23_LeavesAreAsSpecified
 show bd? (bd? (G_law23_small N x.2.1 x.2.2) _) _=_
 rw [hc1,q_bd]
 cases c with
 | false =>
  rw [Bool.not_false,q_if1,q_bd]
  dsimp only
  rw [q_if1,hsan,q_bd]
 | true =>
  obtain ⟨g1,g2,g3,g4⟩:=hc2 rfl
  rw [Bool.not_true,q_if0,q_bd]
  dsimp only
  by_cases hs:s.length <= 600
  ·have okv:okV x.2.1:=⟨hv1,by omega,fun p hp=>⟨hv2 p hp,by have:=(g2 p hp).1;omega,by have:=(g2 p hp).2;omega⟩⟩
   have okk:okK x.2.2:=⟨hb1,by omega,fun p hp=>⟨by have:=g4 p hp;omega,hb2 p hp⟩⟩
   rw [q_iff (decide_eq_false (by omega)),GetReading_eq s (by omega) (by omega) (by omega),q_bd,rGetReading s (by omega) (by omega) (by omega),q_bd,GetVersion_eq s (by omega) (by omega) (by omega),q_bd,rGetVersion s (by omega) (by omega) (by omega),q_bd,GetBlock_eq s (by omega) (by omega) (by omega),q_bd,rGetBlock s (by omega) (by omega),q_bd,Where_eq s (by omega) (by omega),q_bd,rWhere s (by omega) (by omega),q_bd]
   have w1:G_leaf_Reading N (x.1.1,(x.1.2.1,(x.1.2.2.1,(x.1.2.2.2.1,(x.1.2.2.2.2.1,x.1.2.2.2.2.2)))))=some (encR x.1):=Reading_eq (by omega) hr
   have w2:G_ref23_Reading N (x.1.1,(x.1.2.1,(x.1.2.2.1,(x.1.2.2.2.1,(x.1.2.2.2.2.1,x.1.2.2.2.2.2)))))=some (encR x.1):=rReading (by omega) hr
   have w3:G_leaf_Version N (x.2.1.1,(x.2.1.2.1,(x.2.1.2.2.1,(x.2.1.2.2.2.1,(x.2.1.2.2.2.2.1,(x.2.1.2.2.2.2.2.1,(x.2.1.2.2.2.2.2.2.1,x.2.1.2.2.2.2.2.2.2)))))))=some (encV x.2.1):=Version_eq (by omega) okv (by show 4 * (vp x.2.1).length < N;omega)
   have w4:G_ref23_Version N (x.2.1.1,(x.2.1.2.1,(x.2.1.2.2.1,(x.2.1.2.2.2.1,(x.2.1.2.2.2.2.1,(x.2.1.2.2.2.2.2.1,(x.2.1.2.2.2.2.2.2.1,x.2.1.2.2.2.2.2.2.2)))))))=some (encV x.2.1):=rVersion (by omega) okv (by show 4 * (vp x.2.1).length < N;omega)
   have w5:G_leaf_Block N (x.2.2.1,(x.2.2.2.1,(x.2.2.2.2.1,(x.2.2.2.2.2.1,(x.2.2.2.2.2.2.1,x.2.2.2.2.2.2.2)))))=some (encK x.2.2):=Block_eq (by omega) okk
   have w6:G_ref23_Block N (x.2.2.1,(x.2.2.2.1,(x.2.2.2.2.1,(x.2.2.2.2.2.1,(x.2.2.2.2.2.2.1,x.2.2.2.2.2.2.2)))))=some (encK x.2.2):=rBlock (by omega) okk
   rw [w1,q_bd,w2,q_bd,q_nbb,q_if0,w3,q_bd,w4,q_bd,q_nbb,q_if0,w5,q_bd,w6,q_bd,q_nbb]
   unfold fl fl2 flk flk2
   dsimp only
   rw [q_gl,q_gl,q_bd]
   dsimp only
   have v1:G_ref23_SameVersion N ((gvr s).1.1,((gvr s).1.2.1,((gvr s).1.2.2.1,((gvr s).1.2.2.2.1,((gvr s).1.2.2.2.2.1,((gvr s).1.2.2.2.2.2.1,((gvr s).1.2.2.2.2.2.2.1,(gvr s).1.2.2.2.2.2.2.2))))))) ((gvr s).1.1,((gvr s).1.2.1,((gvr s).1.2.2.1,((gvr s).1.2.2.2.1,((gvr s).1.2.2.2.2.1,((gvr s).1.2.2.2.2.2.1,((gvr s).1.2.2.2.2.2.2.1,(gvr s).1.2.2.2.2.2.2.2)))))))=some true:=same_v hN (gvr_okV (by omega))
   have v2:G_ref23_SameBlock N ((gbl s).1.1,((gbl s).1.2.1,((gbl s).1.2.2.1,((gbl s).1.2.2.2.1,((gbl s).1.2.2.2.2.1,(gbl s).1.2.2.2.2.2))))) ((gbl s).1.1,((gbl s).1.2.1,((gbl s).1.2.2.1,((gbl s).1.2.2.2.1,((gbl s).1.2.2.2.2.1,(gbl s).1.2.2.2.2.2)))))=some true:=same_k hN (gbl_okK (by omega))
   rw [q_if0,q_nee,q_if0]
   have ha:∀ a b c d e f:Int,(!(andL [1,1,1,1,1] (a == a) (andL [1,1,1,1] (b == b) (andL [1,1,1] (c == c) (andL [1,1] (d == d) (andL [1] (e == e) (andL ([]:List Nat) (f == f) true)))))))=false:=fun a b c d e f=>by
    rw [q_eqq,q_eqq,q_eqq,q_eqq,q_eqq,q_eqq];rfl
   rw [ha,q_if0,q_nee,q_if0,q_gl,v1,q_bd,Bool.not_true,q_if0,q_nee,q_if0,q_gl,v2,q_bd,q_bd]
   dsimp only
   rw [Bool.not_true,q_if0,hsan,q_bd,q_if1,q_eqq,q_if1,q_eqq,q_if1,q_eqq]
   rfl
  ·rw [q_ift (decide_eq_true (by omega)),hsan,q_bd]
end Go.Proofs.Tryz

set_option maxRecDepth 8000
namespace Go.Proofs.Tryz
open Go.Eng Go.RowKit
theorem sanity_t:G_law23_sanity 17179869200=some true:=by kernel_rfl
end Go.Proofs.Tryz

set_option maxRecDepth 8000
set_option linter.all false
namespace Go.Proofs.Tryz
open Go.Eng Go.RowKit Go.Lib
abbrev leaves_Ts:List Ty:=[(.w (.p (.w (.p (.i .i64) (.p (.i .i64) (.p (.i .i64) (.p (.i .i64) (.p (.i .i64) (.i .i64))))))) (.p (.w (.p (.i .i64) (.p (.i .i64) (.p (.i .i64) (.p (.i .i64) (.p (.i .i64) (.p (.i .i64) (.p (.i .i64) (.w (.sl (.w (.p (.i .i64) (.w (.p .b (.p .s .s))))))))))))))) (.w (.p (.i .i64) (.p (.i .i64) (.p (.i .i64) (.p (.i .i64) (.p (.i .i64) (.sl (.w (.p (.i .i64) (.p (.i .i64) (.p (.sl (.w (.p (.i .i64) (.i .i64)))) (.p (.i .i64) (.i .i64)))))))))))))))),.s]
theorem ac {a:Int} {l:List Int} (h:I64 a) (hl:∀ x ∈ l,I64 x):∀ x ∈ a :: l,I64 x:=fun x hx=>by
 rcases List.mem_cons.1 hx with rfl | hx
 ·exact h
 ·exact hl x hx
theorem an:∀ x ∈ ([]:List Int),I64 x:=fun x hx=>(List.not_mem_nil hx).elim
theorem i64_ok {n:Int} (h:IntKind.min .i64 <= n/\n <= IntKind.max .i64):I64 n:=by
 have e1:IntKind.min .i64=-9223372036854775808:=by decide
 have e2:IntKind.max .i64=9223372036854775807:=by decide
 rw [e1,e2] at h
 exact h
theorem leaves_okA (x:Pk) (h:(leaves_Ts[0]).ok x):okA x:=by
 obtain ⟨⟨r1,r2,r3,r4,r5,r6⟩,⟨v1,v2,v3,v4,v5,v6,v7,_,vq⟩,⟨b1,b2,b3,b4,b5,_,bq⟩⟩:=h
 refine ⟨ac I64_lit.2 (ac (i64_ok r1) (ac (i64_ok r2) (ac (i64_ok r3) (ac (i64_ok r4) (ac (i64_ok r5) (ac (i64_ok r6) an)))))),⟨ac ⟨by decide,by decide⟩ (ac (i64_ok v1) (ac (i64_ok v2) (ac (i64_ok v3) (ac (i64_ok v4) (ac (i64_ok v5) (ac (i64_ok v6) (ac (i64_ok v7) an))))))),fun p hp=>i64_ok (vq p hp).1⟩,ac ⟨by decide,by decide⟩ (ac (i64_ok b1) (ac (i64_ok b2) (ac (i64_ok b3) (ac (i64_ok b4) (ac (i64_ok b5) an))))),fun r hr y hy=>?_⟩
 obtain ⟨c1,c2,⟨_,c3⟩,c4,c5⟩:=bq r hr
 rcases List.mem_append.1 hy with hy | hy
 ·exact ac (i64_ok c1) (ac (i64_ok c2) (ac (i64_ok c4) (ac (i64_ok c5) an))) y hy
 ·obtain ⟨q,hq,hy⟩:=List.mem_flatMap.1 hy
  obtain ⟨d1,d2⟩:=c3 q hq
  exact ac (i64_ok d1) (ac (i64_ok d2) an) y hy
theorem leaves_one (N:Nat) (x0:(leaves_Ts[0]).T) (x1:(leaves_Ts[1]).T) (h:G_law23_LeavesAreAsSpecified N x0 x1=some true):ACall Tryz.prog 4 (erTup leaves_Ts (x0,(x1,()))) [] (.D (.B true)) [] [] :=
 letI:YL:=⟨0⟩
 s_law23_LeavesAreAsSpecified N (x0,(x1,())) true h [] rfl
theorem leaves_acall:∀ x:tup leaves_Ts,okTup leaves_Ts x->ACall Tryz.prog 4 (erTup leaves_Ts x) [] (.D (.B true)) [] []
 | (x0,(x1,())),hx=>leaves_one 17179869200 x0 x1 (leaves_true (by omega) sanity_t x0 x1 (leaves_okA x0 hx.1))
end Go.Proofs.Tryz

