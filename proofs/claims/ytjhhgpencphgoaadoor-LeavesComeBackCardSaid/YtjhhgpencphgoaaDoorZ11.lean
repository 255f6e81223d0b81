/- For every input that the row takes, LeavesComeBack answers true and leaves its arguments as they were. No condition but the row's own. -/
import Derived.Test.YtjhhgpencphgoaaDoorL11G3
import Derived.Test.YtjhhgpencphgoaaDoorP1
import Derived.Test.YtjhhgpencphgoaaDoorP1
import Derived.Lib.Varint
import Derived.Lib.BitFns
import Derived.Laws.Bits64
import Derived.Test.YtjhhgpencphgoaaDoorE32
import Derived.Test.YtjhhgpencphgoaaDoorRows
import Derived.Test.YtjhhgpencphgoaaDoorCards
import Derived.Test.YtjhhgpencphgoaaDoorTie
import Derived.SevenTiedAt
import Derived.LaidLaws
import Derived.Stop.LaidErr
set_option linter.unusedSimpArgs false
set_option linter.unusedVariables false
namespace Go.Proofs.Tryd
open Go.Eng

theorem q8 (n : Nat) : IntKind.wrap .u8 (n : Int) = ((n % 256 : Nat) : Int) := by
  rw [IntKind.wrap_u8]; omega
theorem q64 {x : Int} (h : 0 ≤ x) (h' : x < 18446744073709551616) : IntKind.wrap .u64 x = x := by rw [IntKind.wrap_u64]; omega
def I64 (n : Int) : Prop := -9223372036854775808 ≤ n ∧ n ≤ 9223372036854775807
theorem bytesI_ints (s : Str) : bytesI (intsS s) = s := by
  unfold bytesI intsS
  rw [List.map_map]
  conv => rhs; rw [← List.map_id s]
  refine List.map_congr_left fun c _ => ?_
  show UInt8.ofNat ((c.toNat : Int)).toNat = c
  rw [Int.toNat_natCast]; exact UInt8.ofNat_toNat
theorem intsS_app (s t : Str) : intsS (s ++ t) = intsS s ++ intsS t := List.map_append

open Go.Lib in
theorem int_loop (N : Nat) : ∀ (k z m : Nat) (a : List Int), z < 128 ^ (k + 1) → z < 18446744073709551616 → k < m → a.length + k < 1000000 →
    L_wire_Int_0 N m (z : Int) a = some (a ++ intsS (uvarint z))
  | k, z, 0, a, _, _, h, _ => by omega
  | k, z, m + 1, a, hz, hz2, hm, hal => by
    rw [L_wire_Int_0, q8]
    by_cases h : 128 ≤ z
    · obtain ⟨k', rfl⟩ : ∃ k', k = k' + 1 := ⟨k - 1, by cases k with
        | zero => have : 128 ^ (0 + 1) = 128 := rfl; omega
        | succ k => rfl⟩
      have e1 : bits .or .u8 ((z % 256 : Nat) : Int) 128 = ((z % 128 + 128 : Nat) : Int) := by
        rw [Go.Lib.u8_or128_any _ (by omega) (by omega)]; omega
      have e4 : (z : Int) / 2 ^ (7 : Int).toNat = ((z / 128 : Nat) : Int) := rfl
      rw [e1, e4, show decide ((z : Int) > 127) = true by rw [decide_eq_true_eq]; omega, if_true?, gd_of (by simp only [List.length_cons, List.length_nil]; omega)]
      rw [int_loop N k' (z / 128) m (a ++ [((z % 128 + 128 : Nat) : Int)]) (by have : 128 ^ (k' + 1 + 1) = 128 ^ (k' + 1) * 128 := rfl; omega) (by omega) (by omega) (by simp only [List.length_append, List.length_cons, List.length_nil]; omega), uvarint_big h, List.append_assoc]
      refine congrArg (fun l => some (a ++ l)) ?_
      show _ :: intsS (uvarint (z / 128)) = (((z % 128 + 128).toUInt8.toNat : Nat) : Int) :: intsS (uvarint (z / 128))
      rw [show (z % 128 + 128).toUInt8.toNat = z % 128 + 128 by
        show (z % 128 + 128) % 256 = _; omega]
    · rw [show decide ((z : Int) > 127) = false by rw [decide_eq_false_iff_not]; omega, if_false?, gd_of (by simp only [List.length_cons, List.length_nil]; omega), uvarint_small (by omega)]
      refine congrArg (fun l => some (a ++ l)) ?_
      show [((z % 256 : Nat) : Int)] = [((z.toUInt8.toNat : Nat) : Int)]
      rw [show z.toUInt8.toNat = z % 256 from rfl]
open Go.Lib in
theorem Int_enc (N : Nat) (n : Int) (hN : 20 ≤ N) (hn : I64 n) : F_wire_Int N n = some (intsS (uvarint (zigzag n))) := by
  obtain ⟨h1, h2⟩ := hn
  have e1 : (2 : Int) ^ (63 : Int).toNat = 9223372036854775808 := rfl
  have e2 : (2 : Int) ^ (1 : Int).toNat = 2 := rfl
  have hz : zigzag n < 18446744073709551616 := by unfold zigzag; split <;> omega
  have key : bits .xor .u64 (IntKind.wrap .u64 ((IntKind.wrap .u64 n) * 2)) (IntKind.wrap .u64 (n / 9223372036854775808)) = ((zigzag n : Nat) : Int) := by
    by_cases h : 0 ≤ n
    · have hz' : zigzag n = (2 * n).toNat := by unfold zigzag; rw [if_pos h]
      rw [show n / 9223372036854775808 = ((0 : Nat) : Int) by omega, q64 (x := n) h (by omega), q64 (x := n * 2) (by omega) (by omega), q64 (x := ((0 : Nat) : Int)) (by omega) (by omega), show n * 2 = (((2 * n).toNat : Nat) : Int) by omega, Go.bits_xor_u64_nat _ _ (by omega) (by omega), Nat.xor_zero, hz']
    · have hz' : zigzag n = (-2 * n - 1).toNat := by unfold zigzag; rw [if_neg h]
      have w : ∀ x : Int, IntKind.wrap .u64 x = x % 18446744073709551616 := fun x => IntKind.wrap_u64 x
      obtain ⟨y, hy, hy2⟩ : ∃ y : Nat, (((n % 18446744073709551616) * 2) % 18446744073709551616 : Int) = (y : Int) ∧ (y : Int) = 18446744073709551616 + 2 * n := ⟨(18446744073709551616 + 2 * n).toNat, by omega, by omega⟩
      rw [w, w, w, hy, show n / 9223372036854775808 % 18446744073709551616 = ((18446744073709551615 : Nat) : Int) by omega, Go.bits_xor_u64_nat _ _ (by omega) (by omega)]
      have hx : y ^^^ 18446744073709551615 = 18446744073709551615 - y := by
        rw [Nat.xor_comm]
        apply Nat.eq_of_testBit_eq
        intro i
        rw [Nat.testBit_xor, show 18446744073709551615 - y = 2 ^ 64 - (y + 1) by omega, Nat.testBit_two_pow_sub_succ (by omega), show (18446744073709551615 : Nat) = 2 ^ 64 - (0 + 1) from rfl, Nat.testBit_two_pow_sub_succ (by omega)]
        by_cases hi : i < 64
        · simp [hi]
        · have : y.testBit i = false := Nat.testBit_lt_two_pow (Nat.lt_of_lt_of_le (show y < 2 ^ 64 by omega) (Nat.pow_le_pow_right (by decide) (by omega)))
          simp [hi, this]
      rw [hx, hz']; omega
  unfold F_wire_Int
  rw [e1, e2, key, int_loop N 9 (zigzag n) N [] (by have : 128 ^ (9 + 1) = 1180591620717411303424 := rfl; omega) hz (by omega) (by simp), List.nil_append]
end Go.Proofs.Tryd
namespace Go.Proofs.Tryd
open Go.Eng

def unz (z : Nat) : Int := if z % 2 = 0 then ((z / 2 : Nat) : Int) else -((z / 2 : Nat) : Int) - 1
def giN : Nat → Nat → Str → Int × Int × Int
  | _, _, [] => (0, 0, 10)
  | k, z, c :: r => if (k = 9 ∧ 1 < c.toNat) ∨ (0 < k ∧ c.toNat = 0) then (0, 0, 11) else if c.toNat < 128 then (unz (z + c.toNat % 128 * 128 ^ k), ((k + 1 : Nat) : Int), 0) else giN (k + 1) (z + c.toNat % 128 * 128 ^ k) r

theorem wraps_u64 (n : Int) (h₀ : 0 ≤ n) (h₁ : n < 2 ^ 64) : IntKind.u64.wrap n = n := by rw [IntKind.wrap_u64]; omega
theorem xor_i64 (x b : Nat) (hx : x < 9223372036854775808) (hb : b < 2) : bits .xor .i64 (x : Int) (-(b : Int)) = if b = 0 then (x : Int) else -(x : Int) - 1 := by
  obtain rfl | rfl : b = 0 ∨ b = 1 := by omega
  · simp only [bits, if_pos]
    rw [show (-((0 : Nat) : Int)) = ((0 : Nat) : Int) from rfl, BitVec.ofInt_natCast, BitVec.ofInt_natCast, BitVec.toNat_xor, BitVec.toNat_ofNat, BitVec.toNat_ofNat]
    rw [show (0 % 2 ^ IntKind.i64.bits) = 0 from rfl, Nat.xor_zero, IntKind.wrap_i64, show IntKind.i64.bits = 64 from rfl]
    omega
  · rw [if_neg (by decide)]
    simp only [bits]
    have hone : BitVec.ofInt IntKind.i64.bits (-((1 : Nat) : Int)) = BitVec.allOnes IntKind.i64.bits := by decide
    rw [hone, BitVec.ofInt_natCast, BitVec.xor_allOnes, BitVec.toNat_not, BitVec.toNat_ofNat, IntKind.wrap_i64, show IntKind.i64.bits = 64 from rfl]
    omega
theorem zz_eq (z k c : Nat) (hz : z < 128 ^ k) (hk : k ≤ 9) (hc : c < 256) (h1 : k = 9 → c ≤ 1) :
    bits .or .u64 (z : Int) (IntKind.wrap .u64 ((IntKind.wrap .u64 ((bits .and .u8 (c : Int) 127))) * 2 ^ (7 * (k : Int)).toNat)) = ((z + c % 128 * 128 ^ k : Nat) : Int) ∧ z + c % 128 * 128 ^ k < 18446744073709551616 ∧ (k < 9 → z + c % 128 * 128 ^ k < 128 ^ (k + 1)) := by
  have p9 : 128 ^ k ≤ 9223372036854775808 := Nat.le_trans (Nat.pow_le_pow_right (by decide) hk) (by decide)
  have hm : c % 128 < 128 := Nat.mod_lt _ (by decide)
  have hb : z + c % 128 * 128 ^ k < 18446744073709551616 ∧ (k < 9 → z + c % 128 * 128 ^ k < 128 ^ (k + 1)) := by
    have e : 128 ^ (k + 1) = 128 ^ k * 128 := rfl
    have h2 : c % 128 * 128 ^ k ≤ 127 * 128 ^ k := Nat.mul_le_mul_right _ (by omega)
    refine ⟨?_, fun _ => by omega⟩
    by_cases h : k = 9
    · subst h
      have h3 : c % 128 * 128 ^ 9 ≤ 1 * 128 ^ 9 := Nat.mul_le_mul_right _ (by have := h1 rfl; omega)
      omega
    · have p8 : 128 ^ k ≤ 72057594037927936 := Nat.le_trans (Nat.pow_le_pow_right (by decide) (show k ≤ 8 by omega)) (by decide)
      omega
  refine ⟨?_, hb⟩
  have e1 : bits .and .u8 (c : Int) 127 = ((c % 128 : Nat) : Int) := by
    have := bits_mask .u8 8 (by decide) wraps_u8 7 (by decide) (c : Int) (by omega) (by omega)
    rw [show ((2 : Int) ^ 7 - 1) = 127 from rfl] at this
    rw [this]; omega
  have e2 : (2 : Int) ^ (7 * (k : Int)).toNat = ((128 ^ k : Nat) : Int) := by
    rw [show (7 * (k : Int)).toNat = 7 * k by omega, Int.pow_mul]
    simp
  have hx : c % 128 * 128 ^ k < 18446744073709551616 := by omega
  rw [e1, q64 (x := ((c % 128 : Nat) : Int)) (by omega) (by omega), e2, ← Int.natCast_mul, q64 (x := ((c % 128 * 128 ^ k : Nat) : Int)) (by omega) (by omega), (bits_nat .u64 64 (by decide) wraps_u64 _ _ (by omega) (by omega)).2]
  congr 1
  have e3 : 128 ^ k = 2 ^ (7 * k) := by rw [Nat.pow_mul]
  rw [e3] at hz ⊢
  have := Nat.shiftLeft_add_eq_or_of_lt hz (c % 128)
  rw [Nat.shiftLeft_eq] at this
  rw [Nat.or_comm, ← this, Nat.add_comm]
theorem gi_tail (N : Nat) (p0 : List Int) (m z k c : Nat) (hz : z < 128 ^ k) (hk : k ≤ 9) (hc : c < 256) (h1 : k = 9 → c ≤ 1) :
    (ck .i64 (7 * (k : Int)) (gd? (0 ≤ (7 * (k : Int))) (gd? ((7 * (k : Int)) ≤ (IntKind.bits .u64 : Int)) (if? (decide ((c : Int) < 128)) (ck .i64 ((k : Int) + 1) (if? ((((k : Int) + 1) == 0)) (some (0, 0, 10)) (ck .i64 (((bits .or .u64 (z : Int) (IntKind.wrap .u64 ((IntKind.wrap .u64 ((bits .and .u8 (c : Int) 127))) * 2 ^ (7 * (k : Int)).toNat))) / 2 ^ (1 : Int).toNat)) (ck .i64 ((bits .and .u64 (bits .or .u64 (z : Int) (IntKind.wrap .u64 ((IntKind.wrap .u64 ((bits .and .u8 (c : Int) 127))) * 2 ^ (7 * (k : Int)).toNat))) 1)) (ck .i64 (-((bits .and .u64 (bits .or .u64 (z : Int) (IntKind.wrap .u64 ((IntKind.wrap .u64 ((bits .and .u8 (c : Int) 127))) * 2 ^ (7 * (k : Int)).toNat))) 1))) (some ((bits .xor .i64 (((bits .or .u64 (z : Int) (IntKind.wrap .u64 ((IntKind.wrap .u64 ((bits .and .u8 (c : Int) 127))) * 2 ^ (7 * (k : Int)).toNat))) / 2 ^ (1 : Int).toNat)) (-((bits .and .u64 (bits .or .u64 (z : Int) (IntKind.wrap .u64 ((IntKind.wrap .u64 ((bits .and .u8 (c : Int) 127))) * 2 ^ (7 * (k : Int)).toNat))) 1)))), ((k : Int) + 1), 0))))))) (ck .i64 ((k : Int) + 1) (L_wire_GetInt_0 N p0 m (bits .or .u64 (z : Int) (IntKind.wrap .u64 ((IntKind.wrap .u64 ((bits .and .u8 (c : Int) 127))) * 2 ^ (7 * (k : Int)).toNat))) ((k : Int) + 1))))))) = if c < 128 then some (unz (z + c % 128 * 128 ^ k), ((k + 1 : Nat) : Int), 0) else L_wire_GetInt_0 N p0 m ((z + c % 128 * 128 ^ k : Nat) : Int) ((k + 1 : Nat) : Int) := by
  obtain ⟨h2, h3, h4⟩ := zz_eq z k c hz hk hc h1
  rw [h2]
  generalize z + c % 128 * 128 ^ k = y at *
  have e4 : (y : Int) / 2 ^ (1 : Int).toNat = ((y / 2 : Nat) : Int) := rfl
  have e5 : bits .and .u64 (y : Int) 1 = ((y % 2 : Nat) : Int) := by
    have := bits_mask .u64 64 (by decide) wraps_u64 1 (by decide) (y : Int) (by omega) (by omega)
    rw [show ((2 : Int) ^ 1 - 1) = 1 from rfl] at this
    rw [this]; omega
  rw [e4, e5, xor_i64 _ _ (by omega) (by omega), ck_of (by omega) (by omega), gd_of (by omega), gd_of (by show (7 * (k : Int)) ≤ ((64 : Nat) : Int); omega), show ((k : Int) + 1) = ((k + 1 : Nat) : Int) by omega]
  by_cases hh : c < 128
  · rw [show decide ((c : Int) < 128) = true by rw [decide_eq_true_eq]; omega, if_true?, if_pos hh, ck_of (by omega) (by omega), show (((k + 1 : Nat) : Int) == 0) = false by rw [beq_eq_false_iff_ne]; omega, if_false?, ck_of (by omega) (by omega), ck_of (by omega) (by omega), ck_of (by omega) (by omega)]
    rfl
  · rw [show decide ((c : Int) < 128) = false by rw [decide_eq_false_iff_not]; omega, if_false?, if_neg hh, ck_of (by omega) (by omega)]
theorem gi_loop (N : Nat) (s : Str) : ∀ (r : Str) (k z m : Nat), s.drop k = r → k ≤ 9 → z < 128 ^ k → 10 < m + k → L_wire_GetInt_0 N (intsS s) m (z : Int) (k : Int) = some (giN k z r)
  | r, k, z, 0, _, _, _, h => by omega
  | [], k, z, m + 1, hr, hk, hz, hm => by
    have : s.length ≤ k := by
      have := congrArg List.length hr
      rw [List.length_drop, List.length_nil] at this; omega
    rw [L_wire_GetInt_0, show decide ((k : Int) < ((intsS s).length : Int)) = false by rw [decide_eq_false_iff_not, intsS_len]; omega, if_false?]; rfl
  | c :: r, k, z, m + 1, hr, hk, hz, hm => by
    have hlen : k < s.length := by
      have := congrArg List.length hr
      rw [List.length_drop, List.length_cons] at this; omega
    have hc : s[k] = c := by
      have := congrArg (·[0]?) hr
      simp only [List.getElem?_drop, Nat.add_zero, List.getElem?_cons_zero] at this
      rw [List.getElem?_eq_getElem hlen] at this
      exact Option.some.inj this
    have hr' : s.drop (k + 1) = r := by
      have := congrArg List.tail hr
      rw [List.tail_drop] at this; exact this
    have hcl := c.toNat_lt
    have hget : ∀ f : Int → Option (Int × Int × Int), get? (intsS s) (k : Int) f = f (c.toNat : Int) := fun f => by
      rw [get_of (by rw [intsS_len]; exact hlen)]
      refine congrArg f ?_
      unfold intsS
      rw [List.getElem_map, hc]
    rw [L_wire_GetInt_0, show decide ((k : Int) < ((intsS s).length : Int)) = true by rw [decide_eq_true_eq, intsS_len]; omega, if_true?, hget]
    rw [giN]
    generalize hcn : c.toNat = d at *
    have rest : ¬ ((k = 9 ∧ 1 < d) ∨ (0 < k ∧ d = 0)) → (if d < 128 then some (unz (z + d % 128 * 128 ^ k), ((k + 1 : Nat) : Int), 0) else L_wire_GetInt_0 N (intsS s) m ((z + d % 128 * 128 ^ k : Nat) : Int) ((k + 1 : Nat) : Int)) = some (if d < 128 then (unz (z + d % 128 * 128 ^ k), ((k + 1 : Nat) : Int), 0) else giN (k + 1) (z + d % 128 * 128 ^ k) r) := fun hn => by
      by_cases hh : d < 128
      · rw [if_pos hh, if_pos hh]
      · rw [if_neg hh, if_neg hh]
        have hk9 : k ≠ 9 := fun e => hn (.inl ⟨e, by omega⟩)
        exact gi_loop N s r (k + 1) _ m hr' (by omega) ((zz_eq z k d hz hk (by omega) (fun e => absurd e hk9)).2.2 (by omega)) (by omega)
    by_cases hbad : (k = 9 ∧ 1 < d) ∨ (0 < k ∧ d = 0)
    · rw [if_pos hbad]
      by_cases h1 : k = 9
      · subst h1
        rw [show (((9 : Nat) : Int) == 9) = true from rfl, if_true?]
        by_cases h2 : 1 < d
        · rw [show decide ((d : Int) > 1) = true by rw [decide_eq_true_eq]; omega, if_true?]
        · have h3 : d = 0 := by omega
          subst h3
          rfl
      · have hd : 0 < k ∧ d = 0 := by omega
        rw [show ((k : Int) == 9) = false by rw [beq_eq_false_iff_ne]; omega, if_false?, show decide ((k : Int) > 0) = true by rw [decide_eq_true_eq]; omega, if_true?, show ((d : Int) == 0) = true by rw [beq_iff_eq]; omega, if_true?]
    · rw [if_neg hbad, ← rest hbad, gi_tail N (intsS s) m z k d hz hk (by omega) (by omega)]
      by_cases h1 : k = 9
      · rw [show ((k : Int) == 9) = true by rw [beq_iff_eq]; omega, if_true?, show decide ((d : Int) > 1) = false by rw [decide_eq_false_iff_not]; omega, if_false?, show decide ((k : Int) > 0) = true by rw [decide_eq_true_eq]; omega, if_true?, show ((d : Int) == 0) = false by rw [beq_eq_false_iff_ne]; omega, if_false?]
      · rw [show ((k : Int) == 9) = false by rw [beq_eq_false_iff_ne]; omega, if_false?]
        by_cases h3 : 0 < k
        · rw [show decide ((k : Int) > 0) = true by rw [decide_eq_true_eq]; omega, if_true?, show ((d : Int) == 0) = false by rw [beq_eq_false_iff_ne]; omega, if_false?]
        · rw [show decide ((k : Int) > 0) = false by rw [decide_eq_false_iff_not]; omega, if_false?]
/-- wire.GetInt. -/
def gi (s : Str) : Int × Int × Int := giN 0 0 s
theorem GetInt_eq (N : Nat) (hN : 11 ≤ N) (s : Str) : F_wire_GetInt N (intsS s) = some (gi s) := by
  unfold F_wire_GetInt
  exact gi_loop N s s 0 0 N rfl (by omega) (by decide) (by omega)
end Go.Proofs.Tryd
namespace Go.Proofs.Tryd
open Go.Eng

theorem unz_I64 {z : Nat} (h : z < 18446744073709551616) : I64 (unz z) := by
  unfold unz I64; split <;> omega
theorem giN_ok : ∀ (s : Str) (k z : Nat), k ≤ 9 → z < 128 ^ k → (((giN k z s).2.2 = 0 ∧ ∃ u : Nat, (giN k z s).2.1 = (u : Int) ∧ k + 1 ≤ u ∧ u ≤ k + s.length ∧ u ≤ 10 ∧ I64 (giN k z s).1) ∨ ((giN k z s).1 = 0 ∧ (giN k z s).2.1 = 0 ∧ ((giN k z s).2.2 = 10 ∨ (giN k z s).2.2 = 11)))
  | [], k, z, _, _ => .inr ⟨rfl, rfl, .inl rfl⟩
  | c :: s, k, z, hk, hz => by
    rw [giN]
    by_cases hb : (k = 9 ∧ 1 < c.toNat) ∨ (0 < k ∧ c.toNat = 0)
    · rw [if_pos hb]; exact .inr ⟨rfl, rfl, .inr rfl⟩
    · rw [if_neg hb]
      have hcl := c.toNat_lt
      obtain ⟨_, h1, h2⟩ := zz_eq z k c.toNat hz hk (by omega) (by omega)
      by_cases hh : c.toNat < 128
      · rw [if_pos hh]
        exact .inl ⟨rfl, k + 1, rfl, by omega, by simp only [List.length_cons]; omega, by omega, unz_I64 h1⟩
      · rw [if_neg hh]
        have hk9 : k < 9 := by omega
        rcases giN_ok s (k + 1) _ (by omega) (h2 hk9) with ⟨e, u, h3, h1, h2, h4, h5⟩ | h
        · exact .inl ⟨e, u, h3, by omega, by simp only [List.length_cons]; omega, h4, h5⟩
        · exact .inr h
theorem gi_ok (s : Str) : ((gi s).2.2 = 0 ∧ ∃ u : Nat, (gi s).2.1 = (u : Int) ∧ 1 ≤ u ∧ u ≤ s.length ∧ u ≤ 10 ∧ I64 (gi s).1) ∨ ((gi s).1 = 0 ∧ (gi s).2.1 = 0 ∧ ((gi s).2.2 = 10 ∨ (gi s).2.2 = 11)) := by
  rcases giN_ok s 0 0 (by omega) (by decide) with ⟨e, u, h1, h2, h3, h4, h5⟩ | h
  · exact .inl ⟨e, u, h1, by omega, by omega, h4, h5⟩
  · exact .inr h

/-- The count at the head of a list. -/
def lenW (s : Str) : Int × Int × Int :=
  if (gi s).2.2 ≠ 0 then (0, 0, (gi s).2.2) else if (gi s).1 < 0 then (0, 0, 11) else if (gi s).1 > (s.length : Int) - (gi s).2.1 then (0, 0, 10) else ((gi s).1, (gi s).2.1, 0)
theorem ne_f {a b : Int} (h : a = b) : (a != b) = false := by rw [bne_eq_false_iff_eq]; exact h
theorem ne_t {a b : Int} (h : a ≠ b) : (a != b) = true := by rw [bne_iff_ne]; exact h
theorem length_eq (N : Nat) (hN : 11 ≤ N) (s : Str) (hs : s.length ≤ 1000000) : F_wire_length N (intsS s) 1 = some (lenW s) := by
  unfold F_wire_length lenW
  rw [GetInt_eq N hN, bd_some, intsS_len]
  rcases gi_ok s with ⟨e, u, h1, h2, h3, h4, h5⟩ | ⟨h1, h2, h3⟩
  · obtain ⟨b1, b2⟩ := h5
    rw [ne_f e, if_false?, if_neg (by rw [e]; simp), h1, Int.tdiv_one]
    by_cases hn : (gi s).1 < 0
    · rw [show decide ((gi s).1 < 0) = true from decide_eq_true hn, if_true?, if_pos hn]
    · rw [show decide ((gi s).1 < 0) = false from decide_eq_false hn, if_false?, if_neg hn, ck_of (by omega) (by omega), gd_of (by decide), ck_of (by omega) (by omega)]
      by_cases hg : (gi s).1 > (s.length : Int) - (u : Int)
      · rw [show decide ((gi s).1 > (s.length : Int) - (u : Int)) = true from decide_eq_true hg, if_true?, if_pos hg]
      · rw [show decide ((gi s).1 > (s.length : Int) - (u : Int)) = false from decide_eq_false hg, if_false?, if_neg hg]
  · have hne : (gi s).2.2 ≠ 0 := by omega
    rw [ne_t hne, if_true?, if_pos hne]
theorem lenW_ok (s : Str) : ((lenW s).2.2 = 0 ∧ ∃ n u : Nat, lenW s = ((n : Int), (u : Int), 0) ∧ 1 ≤ u ∧ n + u ≤ s.length) ∨ ((lenW s).1 = 0 ∧ (lenW s).2.1 = 0 ∧ ((lenW s).2.2 = 10 ∨ (lenW s).2.2 = 11)) := by
  unfold lenW
  rcases gi_ok s with ⟨e, u, h1, h2, h3, h4, h5⟩ | ⟨h1, h2, h3⟩
  · rw [if_neg (by rw [e]; simp)]
    by_cases hn : (gi s).1 < 0
    · rw [if_pos hn]; exact .inr ⟨rfl, rfl, .inr rfl⟩
    · rw [if_neg hn]
      by_cases hg : (gi s).1 > (s.length : Int) - (gi s).2.1
      · rw [if_pos hg]; exact .inr ⟨rfl, rfl, .inl rfl⟩
      · rw [if_neg hg]
        refine .inl ⟨rfl, (gi s).1.toNat, u, ?_, h2, by omega⟩
        rw [h1, Int.toNat_of_nonneg (by omega)]
  · rw [if_pos (by omega)]
    exact .inr ⟨rfl, rfl, h3⟩

def getsI : Nat → Str → Int → List Int → List Int × Int × Int
  | 0, _, a, acc => (acc, a, 0)
  | n + 1, r, a, acc => if (gi r).2.2 ≠ 0 then ([], 0, (gi r).2.2) else getsI n (r.drop (gi r).2.1.toNat) (a + (gi r).2.1) (acc ++ [(gi r).1])
theorem ints_tail (s : Str) (a : Nat) : ((intsS s).drop a).take ((intsS s).length - a) = intsS (s.drop a) := by
  rw [intsS_drop, List.take_of_length_le (by rw [List.length_drop]; exact Nat.le_refl _)]
theorem getsI_loop (N : Nat) (hN : 11 ≤ N) (s : Str) (v : Int × Int × Int) (hs : s.length ≤ 1000000) : ∀ (n a b m : Nat) (acc : List Int), v.1 = ((b + n : Nat) : Int) → a ≤ s.length → b + n ≤ 1000000 → acc.length = b → n < m →
    L_wire_get_int_0 N (intsS s) v m (a : Int) (b : Int) acc = some (getsI n (s.drop a) (a : Int) acc)
  | n, a, b, 0, acc, _, _, _, _, h => by omega
  | 0, a, b, m + 1, acc, hv, ha, hb, hacc, _ => by
    rw [L_wire_get_int_0, hv, show decide ((b : Int) < ((b + 0 : Nat) : Int)) = false from decide_eq_false (by omega), if_false?]; rfl
  | n + 1, a, b, m + 1, acc, hv, ha, hb, hacc, hm => by
    rw [L_wire_get_int_0, hv, show decide ((b : Int) < ((b + (n + 1) : Nat) : Int)) = true from decide_eq_true (by omega), if_true?, gd_of (by omega), Int.toNat_natCast, gd_of (by rw [intsS_len]; exact ha), ints_tail, GetInt_eq N hN, bd_some, getsI]
    rcases gi_ok (s.drop a) with ⟨e, u, h1, h2, h3, h4, h5⟩ | ⟨h1, h2, h3⟩
    · rw [List.length_drop] at h3
      rw [ne_f e, if_false?, if_neg (by rw [e]; simp), gd_of (by simp only [List.length_cons, List.length_nil]; omega), h1, ck_of (by omega) (by omega), ck_of (by omega) (by omega), show ((a : Int) + (u : Int)) = ((a + u : Nat) : Int) by omega, show ((b : Int) + 1) = ((b + 1 : Nat) : Int) by omega,
        getsI_loop N hN s v hs n (a + u) (b + 1) m _ (by rw [hv]; omega) (by omega) (by omega) (by simp [hacc]) (by omega), Int.toNat_natCast, List.drop_drop]
    · have hne : (gi (s.drop a)).2.2 ≠ 0 := by omega
      rw [ne_t hne, if_true?, if_pos hne]
def gints (s : Str) : List Int × Int × Int := if (lenW s).2.2 ≠ 0 then ([], 0, (lenW s).2.2) else getsI (lenW s).1.toNat (s.drop (lenW s).2.1.toNat) (lenW s).2.1 []
theorem GetInts_eq (N : Nat) (s : Str) (hN : 11 ≤ N) (hs : s.length < N) (hb : s.length ≤ 1000000) : F_wire_GetInts N (intsS s) = some (gints s) := by
  unfold F_wire_GetInts F_wire_get_int gints
  rw [length_eq N hN s hb, bd_some]
  rcases lenW_ok s with ⟨e, n, u, h1, h2, h3⟩ | ⟨h1, h2, h3⟩
  · rw [ne_f e, if_false?, if_neg (by rw [e]; simp)]
    have e1 : (lenW s).1 = (n : Int) := by rw [h1]
    have e2 : (lenW s).2.1 = (u : Int) := by rw [h1]
    rw [e2]
    have := getsI_loop N hN s (lenW s) hb n u 0 N [] (by rw [e1]; omega) (by omega) (by omega) rfl (by omega)
    rw [show (((0 : Nat) : Int)) = 0 from rfl] at this
    rw [this, bd_some, e1, Int.toNat_natCast, Int.toNat_natCast]
  · have hne : (lenW s).2.2 ≠ 0 := by omega
    rw [ne_t hne, if_true?, if_pos hne, bd_some]

def gbytes (s : Str) : Str × Int × Int := if (lenW s).2.2 ≠ 0 then ([], 0, (lenW s).2.2) else ((s.drop (lenW s).2.1.toNat).take (lenW s).1.toNat, (lenW s).2.1 + (lenW s).1, 0)
theorem GetBytes_eq (N : Nat) (s : Str) (hN : 11 ≤ N) (hb : s.length ≤ 1000000) : F_wire_GetBytes N (intsS s) = some (gbytes s) := by
  unfold F_wire_GetBytes gbytes
  rw [length_eq N hN s hb, bd_some]
  rcases lenW_ok s with ⟨e, n, u, h1, h2, h3⟩ | ⟨h1, h2, h3⟩
  · rw [ne_f e, if_false?, if_neg (by rw [e]; simp)]
    have e1 : (lenW s).1 = (n : Int) := by rw [h1]
    have e2 : (lenW s).2.1 = (u : Int) := by rw [h1]
    rw [e1, e2, ck_of (by omega) (by omega), gd_of (by omega), gd_of (by omega), gd_of (by omega), gd_of (by rw [intsS_len]; omega), Int.toNat_natCast, Int.toNat_natCast, show ((u : Int) + (n : Int)).toNat - u = n by omega, ← intsS_drop, ← intsS_take, bytesI_ints]
  · have hne : (lenW s).2.2 ≠ 0 := by omega
    rw [ne_t hne, if_true?, if_pos hne]
theorem gbytes_ok (s : Str) : ((gbytes s).2.2 = 0 ∧ ∃ u : Nat, (gbytes s).2.1 = (u : Int) ∧ 1 ≤ u ∧ u ≤ s.length ∧ (gbytes s).1.length ≤ s.length) ∨ ((gbytes s).1 = [] ∧ (gbytes s).2.1 = 0 ∧ ((gbytes s).2.2 = 10 ∨ (gbytes s).2.2 = 11)) := by
  unfold gbytes
  rcases lenW_ok s with ⟨e, n, u, h1, h2, h3⟩ | ⟨h1, h2, h3⟩
  · rw [if_neg (by rw [e]; simp)]
    refine .inl ⟨rfl, u + n, by rw [h1]; rfl, by omega, by omega, ?_⟩
    show ((s.drop _).take _).length ≤ _
    rw [List.length_take, List.length_drop]; omega
  · rw [if_pos (by omega)]
    exact .inr ⟨rfl, rfl, h3⟩
def getsS : Nat → Str → Int → List Str → List Str × Int × Int
  | 0, _, a, acc => (acc, a, 0)
  | n + 1, r, a, acc => if (gbytes r).2.2 ≠ 0 then ([], 0, (gbytes r).2.2) else getsS n (r.drop (gbytes r).2.1.toNat) (a + (gbytes r).2.1) (acc ++ [(gbytes r).1])
theorem getsS_loop (N : Nat) (hN : 11 ≤ N) (s : Str) (v : Int × Int × Int) (hs : s.length ≤ 1000000) : ∀ (n a b m : Nat) (acc : List Str), v.1 = ((b + n : Nat) : Int) → a ≤ s.length → b + n ≤ 1000000 → acc.length = b → n < m →
    L_wire_get_string_0 N (intsS s) v m (a : Int) (b : Int) acc = some (getsS n (s.drop a) (a : Int) acc)
  | n, a, b, 0, acc, _, _, _, _, h => by omega
  | 0, a, b, m + 1, acc, hv, ha, hb, hacc, _ => by
    rw [L_wire_get_string_0, hv, show decide ((b : Int) < ((b + 0 : Nat) : Int)) = false from decide_eq_false (by omega), if_false?]; rfl
  | n + 1, a, b, m + 1, acc, hv, ha, hb, hacc, hm => by
    rw [L_wire_get_string_0, hv, show decide ((b : Int) < ((b + (n + 1) : Nat) : Int)) = true from decide_eq_true (by omega), if_true?, gd_of (by omega), Int.toNat_natCast, gd_of (by rw [intsS_len]; exact ha), ints_tail, GetBytes_eq N _ hN (by rw [List.length_drop]; omega), bd_some, getsS]
    rcases gbytes_ok (s.drop a) with ⟨e, u, h1, h2, h3, h4⟩ | ⟨h1, h2, h3⟩
    · rw [List.length_drop] at h3
      rw [ne_f e, if_false?, if_neg (by rw [e]; simp), gd_of (by simp only [List.length_cons, List.length_nil]; omega), h1, ck_of (by omega) (by omega), ck_of (by omega) (by omega), show ((a : Int) + (u : Int)) = ((a + u : Nat) : Int) by omega, show ((b : Int) + 1) = ((b + 1 : Nat) : Int) by omega,
        getsS_loop N hN s v hs n (a + u) (b + 1) m _ (by rw [hv]; omega) (by omega) (by omega) (by simp [hacc]) (by omega), Int.toNat_natCast, List.drop_drop]
    · have hne : (gbytes (s.drop a)).2.2 ≠ 0 := by omega
      rw [ne_t hne, if_true?, if_pos hne]
def gstrs (s : Str) : List Str × Int × Int := if (lenW s).2.2 ≠ 0 then ([], 0, (lenW s).2.2) else getsS (lenW s).1.toNat (s.drop (lenW s).2.1.toNat) (lenW s).2.1 []
theorem GetStrings_eq (N : Nat) (s : Str) (hN : 11 ≤ N) (hs : s.length < N) (hb : s.length ≤ 1000000) : F_wire_GetStrings N (intsS s) = some (gstrs s) := by
  unfold F_wire_GetStrings F_wire_get_string gstrs
  rw [length_eq N hN s hb, bd_some]
  rcases lenW_ok s with ⟨e, n, u, h1, h2, h3⟩ | ⟨h1, h2, h3⟩
  · rw [ne_f e, if_false?, if_neg (by rw [e]; simp)]
    have e1 : (lenW s).1 = (n : Int) := by rw [h1]
    have e2 : (lenW s).2.1 = (u : Int) := by rw [h1]
    rw [e2]
    have := getsS_loop N hN s (lenW s) hb n u 0 N [] (by rw [e1]; omega) (by omega) (by omega) rfl (by omega)
    rw [show (((0 : Nat) : Int)) = 0 from rfl] at this
    rw [this, bd_some, e1, Int.toNat_natCast, Int.toNat_natCast]
  · have hne : (lenW s).2.2 ≠ 0 := by omega
    rw [ne_t hne, if_true?, if_pos hne, bd_some]
end Go.Proofs.Tryd
namespace Go.Proofs.Tryd
open Go.Eng

theorem must_t (N : Nat) : F_leaf_must N true = some (some ()) := rfl
theorem must_f (N : Nat) : F_leaf_must N false = some none := rfl
theorem eq_t {a b : Int} (h : a = b) : (a == b) = true := by rw [beq_iff_eq]; exact h
theorem eq_f {a b : Int} (h : a ≠ b) : (a == b) = false := by rw [beq_eq_false_iff_ne]; exact h

theorem getsI_ok : ∀ (n : Nat) (r : Str) (a : Nat) (acc : List Int), (∀ x ∈ acc, I64 x) → ((getsI n r (a : Int) acc).2.2 = 0 ∧ ∃ u : Nat, (getsI n r (a : Int) acc).2.1 = (u : Int) ∧ a ≤ u ∧ u ≤ a + r.length ∧ (getsI n r (a : Int) acc).1.length = acc.length + n ∧ ∀ x ∈ (getsI n r (a : Int) acc).1, I64 x) ∨ ((getsI n r (a : Int) acc).2.2 ≠ 0)
  | 0, r, a, acc, h => .inl ⟨rfl, a, rfl, by omega, by omega, rfl, h⟩
  | n + 1, r, a, acc, h => by
    rw [getsI]
    rcases gi_ok r with ⟨e, u, h1, h2, h3, h4, h5⟩ | ⟨h1, h2, h3⟩
    · rw [if_neg (by rw [e]; simp), h1, show ((a : Int) + (u : Int)) = ((a + u : Nat) : Int) by omega, Int.toNat_natCast]
      rcases getsI_ok n (r.drop u) (a + u) (acc ++ [(gi r).1]) (fun x hx => by
        rcases List.mem_append.1 hx with hx | hx
        · exact h x hx
        · rw [List.mem_singleton.1 hx]; exact h5) with ⟨e', u', g1, g2, g3, g4, g5⟩ | g
      · rw [List.length_drop] at g3
        exact .inl ⟨e', u', g1, by omega, by omega, by rw [g4]; simp; omega, g5⟩
      · exact .inr g
    · have hne : (gi r).2.2 ≠ 0 := by omega
      rw [if_pos hne]; exact .inr hne
theorem gints_ok (s : Str) : ((gints s).2.2 = 0 ∧ ∃ u : Nat, (gints s).2.1 = (u : Int) ∧ u ≤ s.length ∧ (gints s).1.length ≤ s.length ∧ ∀ x ∈ (gints s).1, I64 x) ∨ ((gints s).2.2 ≠ 0) := by
  unfold gints
  rcases lenW_ok s with ⟨e, n, u, h1, h2, h3⟩ | ⟨h1, h2, h3⟩
  · rw [if_neg (by rw [e]; simp)]
    have e1 : (lenW s).1 = (n : Int) := by rw [h1]
    have e2 : (lenW s).2.1 = (u : Int) := by rw [h1]
    rw [e1, e2, Int.toNat_natCast, Int.toNat_natCast]
    rcases getsI_ok n (s.drop u) u [] (fun x hx => by cases hx) with ⟨e', u', g1, g2, g3, g4, g5⟩ | g
    · rw [List.length_drop] at g3
      exact .inl ⟨e', u', g1, by omega, by rw [g4]; simp; omega, g5⟩
    · exact .inr g
  · have hne : (lenW s).2.2 ≠ 0 := by omega
    rw [if_pos hne]; exact .inr hne
theorem getsS_ok : ∀ (n : Nat) (r : Str) (a : Nat) (acc : List Str), ((getsS n r (a : Int) acc).2.2 = 0 ∧ ∃ u : Nat, (getsS n r (a : Int) acc).2.1 = (u : Int) ∧ a ≤ u ∧ u ≤ a + r.length ∧ (getsS n r (a : Int) acc).1.length = acc.length + n ∧ ∀ b : Nat, r.length ≤ b → (∀ x ∈ acc, x.length ≤ b) → ∀ x ∈ (getsS n r (a : Int) acc).1, x.length ≤ b) ∨ ((getsS n r (a : Int) acc).2.2 ≠ 0)
  | 0, r, a, acc => .inl ⟨rfl, a, rfl, by omega, by omega, rfl, fun _ _ h => h⟩
  | n + 1, r, a, acc => by
    rw [getsS]
    rcases gbytes_ok r with ⟨e, u, h1, h2, h3, h4⟩ | ⟨h1, h2, h3⟩
    · rw [if_neg (by rw [e]; simp), h1, show ((a : Int) + (u : Int)) = ((a + u : Nat) : Int) by omega, Int.toNat_natCast]
      rcases getsS_ok n (r.drop u) (a + u) (acc ++ [(gbytes r).1]) with ⟨e', u', g1, g2, g3, g4, g5⟩ | g
      · rw [List.length_drop] at g3
        refine .inl ⟨e', u', g1, by omega, by omega, by rw [g4]; simp; omega, fun b hb hx => g5 b (by rw [List.length_drop]; omega) fun x hx' => ?_⟩
        rcases List.mem_append.1 hx' with hx' | hx'
        · exact hx x hx'
        · rw [List.mem_singleton.1 hx']; omega
      · exact .inr g
    · have hne : (gbytes r).2.2 ≠ 0 := by omega
      rw [if_pos hne]; exact .inr hne
theorem gstrs_ok (s : Str) : ((gstrs s).2.2 = 0 ∧ ∃ u : Nat, (gstrs s).2.1 = (u : Int) ∧ u ≤ s.length ∧ (gstrs s).1.length ≤ s.length ∧ ∀ x ∈ (gstrs s).1, x.length ≤ s.length) ∨ ((gstrs s).2.2 ≠ 0) := by
  unfold gstrs
  rcases lenW_ok s with ⟨e, n, u, h1, h2, h3⟩ | ⟨h1, h2, h3⟩
  · rw [if_neg (by rw [e]; simp)]
    have e1 : (lenW s).1 = (n : Int) := by rw [h1]
    have e2 : (lenW s).2.1 = (u : Int) := by rw [h1]
    rw [e1, e2, Int.toNat_natCast, Int.toNat_natCast]
    rcases getsS_ok n (s.drop u) u [] with ⟨e', u', g1, g2, g3, g4, g5⟩ | g
    · rw [List.length_drop] at g3
      exact .inl ⟨e', u', g1, by omega, by rw [g4]; simp; omega, g5 s.length (by rw [List.length_drop]; omega) fun x hx => by cases hx⟩
    · exact .inr g
  · have hne : (lenW s).2.2 ≠ 0 := by omega
    rw [if_pos hne]; exact .inr hne

def hd (s : Str) (k : Int) (c : Nat) (more : Bool) : Option (List Int × List Str) :=
  if (gints s).2.2 = 0 ∧ (gints s).1.length = c ∧ (gints s).1.getD 0 0 = k then
    if more = true then
      if (gstrs (s.drop (gints s).2.1.toNat)).2.2 = 0 ∧ (gints s).2.1 + (gstrs (s.drop (gints s).2.1.toNat)).2.1 = (s.length : Int) then some ((gints s).1, (gstrs (s.drop (gints s).2.1.toNat)).1) else none
    else if (gints s).2.1 = (s.length : Int) then some ((gints s).1, []) else none
  else none
theorem get_D {α β : Type} {l : List α} {i : Nat} {d : α} {f : α → Option β} (h : i < l.length) : get? l (i : Int) f = f (l.getD i d) := by
  rw [get_of h, List.getD_eq_getElem?_getD, List.getElem?_eq_getElem h]; rfl
theorem str_tail (s : Str) (a : Nat) : (s.drop a).take (s.length - a) = s.drop a := List.take_of_length_le (by rw [List.length_drop]; exact Nat.le_refl _)
theorem head_eq (N : Nat) (s : Str) (k : Int) (c : Nat) (more : Bool) (hN : 11 ≤ N) (hs : s.length < N) (hb : s.length ≤ 1000000) (hc : 1 ≤ c) : F_leaf_head N s k (c : Int) more = some (hd s k c more) := by
  unfold F_leaf_head hd
  rw [GetInts_eq N s hN hs hb, bd_some]
  rcases gints_ok s with ⟨e, u, h1, h2, h3, h4⟩ | h
  · rw [eq_t e, if_true?]
    by_cases hl : (gints s).1.length = c
    · rw [eq_t (show ((gints s).1.length : Int) = (c : Int) by omega), if_true?, show (0 : Int) = ((0 : Nat) : Int) from rfl, get_D (d := 0) (by omega)]
      by_cases hk : (gints s).1.getD 0 0 = k
      · rw [eq_t hk, must_t, bdp_some, if_pos ⟨e, hl, hk⟩]
        cases more with
        | true =>
          rw [if_true?, if_pos rfl, h1, Int.toNat_natCast, gd_of (by omega), gd_of h2, str_tail, GetStrings_eq N _ hN (by rw [List.length_drop]; omega) (by rw [List.length_drop]; omega), bd_some]
          rcases gstrs_ok (s.drop u) with ⟨e', u', g1, g2, g3, g4⟩ | g
          · rw [List.length_drop] at g2
            rw [show (((gstrs (s.drop u)).2.2 == ((0 : Nat) : Int))) = true from eq_t e', if_true?, g1, ck_of (by omega) (by omega)]
            by_cases hh : (u : Int) + (u' : Int) = (s.length : Int)
            · rw [eq_t hh, must_t, bdp_some, if_pos ⟨e', hh⟩]
            · rw [eq_f hh, must_f, bdp_none, if_neg (fun q => hh q.2)]
          · rw [show (((gstrs (s.drop u)).2.2 == ((0 : Nat) : Int))) = false from eq_f g, if_false?, must_f, bdp_none, if_neg (fun q => g q.1)]
        | false =>
          rw [if_false?, if_neg (by decide)]
          by_cases hh : (gints s).2.1 = (s.length : Int)
          · rw [eq_t hh, must_t, bdp_some, if_pos hh]
          · rw [eq_f hh, must_f, bdp_none, if_neg hh]
      · rw [eq_f hk, must_f, bdp_none, if_neg (fun q => hk q.2.2)]
    · rw [eq_f (show ((gints s).1.length : Int) ≠ (c : Int) by omega), if_false?, must_f, bdp_none, if_neg (fun q => hl q.2.1)]
  · rw [eq_f h, if_false?, must_f, bdp_none, if_neg (fun q => h q.1)]
theorem hd_ok {s : Str} {k : Int} {c : Nat} {more : Bool} {v : List Int × List Str} (h : hd s k c more = some v) : v.1.length = c ∧ (∀ x ∈ v.1, I64 x) ∧ v.2.length ≤ s.length ∧ ∀ x ∈ v.2, x.length ≤ s.length := by
  unfold hd at h
  split at h
  · rename_i hh
    obtain ⟨e, hl, hk⟩ := hh
    rcases gints_ok s with ⟨_, u, h1, h2, h3, h4⟩ | g
    · split at h
      · split at h
        · rename_i hh
          cases h
          rcases gstrs_ok (s.drop (gints s).2.1.toNat) with ⟨_, u', g1, g2, g3, g4⟩ | g
          · rw [List.length_drop] at g3 g4
            exact ⟨hl, h4, Nat.le_trans g3 (Nat.sub_le _ _), fun x hx => Nat.le_trans (g4 x hx) (Nat.sub_le _ _)⟩
          · exact absurd hh.1 g
        · cases h
      · split at h
        · cases h
          exact ⟨hl, h4, by simp, fun x hx => by cases hx⟩
        · cases h
    · exact absurd e g
  · cases h

def grd (s : Str) : Reading × Int :=
  match hd s 1 7 false with
  | none => (Reading.mk 0 0 0 0 0 0, 11)
  | some v => (Reading.mk (v.1.getD 1 0) (v.1.getD 2 0) (v.1.getD 3 0) (v.1.getD 4 0) (v.1.getD 5 0) (v.1.getD 6 0), 0)
theorem GetReading_eq (N : Nat) (s : Str) (hN : 11 ≤ N) (hs : s.length < N) (hb : s.length ≤ 1000000) : F_leaf_GetReading N s = some (grd s) := by
  unfold F_leaf_GetReading grd
  rw [show (7 : Int) = ((7 : Nat) : Int) from rfl, head_eq N s 1 7 false hN hs hb (by omega)]
  cases h : hd s 1 7 false with
  | none => rw [bdp_none]
  | some v =>
    have hl := (hd_ok h).1
    rw [bdp_some, show (1 : Int) = ((1 : Nat) : Int) from rfl, get_D (d := 0) (by omega), show (2 : Int) = ((2 : Nat) : Int) from rfl, get_D (d := 0) (by omega), show (3 : Int) = ((3 : Nat) : Int) from rfl, get_D (d := 0) (by omega), show (4 : Int) = ((4 : Nat) : Int) from rfl, get_D (d := 0) (by omega), show (5 : Int) = ((5 : Nat) : Int) from rfl, get_D (d := 0) (by omega), show (6 : Int) = ((6 : Nat) : Int) from rfl, get_D (d := 0) (by omega)]
end Go.Proofs.Tryd
namespace Go.Proofs.Tryd
open Go.Eng

def one (s : Str) : Option Int := if (gi s).2.2 = 0 ∧ (gi s).2.1 = (s.length : Int) then some (gi s).1 else none
theorem one_eq (N : Nat) (hN : 11 ≤ N) (s : Str) : F_leaf_one N s = some (one s) := by
  unfold F_leaf_one one
  rw [GetInt_eq N hN, bd_some]
  by_cases e : (gi s).2.2 = 0
  · rw [eq_t e, if_true?]
    by_cases hh : (gi s).2.1 = (s.length : Int)
    · rw [eq_t hh, must_t, bdp_some, if_pos ⟨e, hh⟩]
    · rw [eq_f hh, must_f, bdp_none, if_neg (fun q => hh q.2)]
  · rw [eq_f e, if_false?, must_f, bdp_none, if_neg (fun q => e q.1)]

def pts : List Str → List Point → Option (List Point)
  | a :: b :: c :: d :: r, acc => match one a, one b with
    | some st, some ng => if ng = 0 ∨ ng = 1 then pts r (acc ++ [Point.mk st (Rat.mk (ng == 1) c d)]) else none
    | _, _ => none
  | _, acc => some acc
def gvr (s : Str) : Version × Int :=
  match hd s 2 8 true with
  | none => (Version.mk 0 0 0 0 0 0 0 (Curve.mk []), 11)
  | some v => if v.2.length % 4 = 0 then
      match pts v.2 [] with
      | none => (Version.mk 0 0 0 0 0 0 0 (Curve.mk []), 11)
      | some l => (Version.mk (v.1.getD 1 0) (v.1.getD 2 0) (v.1.getD 3 0) (v.1.getD 4 0) (v.1.getD 5 0) (v.1.getD 6 0) (v.1.getD 7 0) (Curve.mk l), 0)
    else (Version.mk 0 0 0 0 0 0 0 (Curve.mk []), 11)
theorem ver_loop (N : Nat) (hN : 11 ≤ N) (v : List Int × List Str) (hv : v.1.length = 8) : ∀ (k m : Nat) (l : List Str) (acc : List Point), l.length = 4 * k → k < m → acc.length + k ≤ 1000000 →
    L_leaf_GetVersion_0 N v m l acc = some (match pts l acc with
      | none => (Version.mk 0 0 0 0 0 0 0 (Curve.mk []), 11)
      | some l => (Version.mk (v.1.getD 1 0) (v.1.getD 2 0) (v.1.getD 3 0) (v.1.getD 4 0) (v.1.getD 5 0) (v.1.getD 6 0) (v.1.getD 7 0) (Curve.mk l), 0))
  | k, 0, l, acc, _, h, _ => by omega
  | 0, m + 1, l, acc, hl, _, _ => by
    have : l = [] := List.length_eq_zero_iff.1 (by omega)
    subst this
    rw [L_leaf_GetVersion_0]
    show if? false _ _ = _
    rw [if_false?, show (1 : Int) = ((1 : Nat) : Int) from rfl, get_D (d := 0) (by omega), show (2 : Int) = ((2 : Nat) : Int) from rfl, get_D (d := 0) (by omega), show (3 : Int) = ((3 : Nat) : Int) from rfl, get_D (d := 0) (by omega), show (4 : Int) = ((4 : Nat) : Int) from rfl, get_D (d := 0) (by omega), show (5 : Int) = ((5 : Nat) : Int) from rfl, get_D (d := 0) (by omega), show (6 : Int) = ((6 : Nat) : Int) from rfl, get_D (d := 0) (by omega), show (7 : Int) = ((7 : Nat) : Int) from rfl, get_D (d := 0) (by omega)]
    rfl
  | k + 1, m + 1, l, acc, hl, hm, hb => by
    obtain ⟨a, b, c, d, r, rfl⟩ : ∃ a b c d r, l = a :: b :: c :: d :: r := by
      match l, hl with
      | a :: b :: c :: d :: r, _ => exact ⟨a, b, c, d, r, rfl⟩
      | [], h => simp at h
      | [_], h => simp at h; omega
      | [_, _], h => simp at h; omega
      | [_, _, _], h => simp at h; omega
    have hr : r.length = 4 * k := by simp only [List.length_cons] at hl; omega
    have e4 : ((a :: b :: c :: d :: r).drop (4 : Int).toNat).take ((a :: b :: c :: d :: r).length - (4 : Int).toNat) = r := by
      show r.take (r.length + 4 - 4) = r
      rw [Nat.add_sub_cancel, List.take_length]
    rw [L_leaf_GetVersion_0, show decide (((a :: b :: c :: d :: r).length : Int) > 0) = true from decide_eq_true (by simp only [List.length_cons]; omega), if_true?]
    show bdp? (F_leaf_one N a) _ (fun v7 => bdp? (F_leaf_one N b) _ _) = _
    rw [one_eq N hN, one_eq N hN, pts]
    cases ha : one a with
    | none => rfl
    | some st =>
      rw [bdp_some]
      cases hb2 : one b with
      | none => rfl
      | some ng =>
        rw [bdp_some]
        have fin : ∀ x : Bool, x = (ng == 1) → (gd? ((acc.length + [Point.mk st (Rat.mk x c d)].length) * 48 ≤ 140737488355328) (gd? ((4 : Int).toNat ≤ (a :: b :: c :: d :: r).length) (L_leaf_GetVersion_0 N v m (((a :: b :: c :: d :: r).drop (4 : Int).toNat).take ((a :: b :: c :: d :: r).length - (4 : Int).toNat)) (acc ++ [Point.mk st (Rat.mk x c d)])))) = L_leaf_GetVersion_0 N v m r (acc ++ [Point.mk st (Rat.mk (ng == 1) c d)]) := fun x hx => by
          subst hx
          rw [gd_of (by simp only [List.length_cons, List.length_nil]; omega), gd_of (by simp only [List.length_cons]; show 4 ≤ _; omega), e4]
        have ih := ver_loop N hN v hv k m r (acc ++ [Point.mk st (Rat.mk (ng == 1) c d)]) hr (by omega) (by simp only [List.length_append, List.length_cons, List.length_nil]; omega)
        by_cases h1 : ng = 0
        · rw [eq_t h1, if_true?, must_t, bdp_some]
          refine (fin _ rfl).trans (ih.trans ?_)
          simp only [h1, true_or, if_true]
        · rw [eq_f h1, if_false?]
          by_cases h2 : ng = 1
          · rw [eq_t h2, must_t, bdp_some]
            refine (fin _ (eq_t h2).symm).trans (ih.trans ?_)
            simp only [if_pos (Or.inr h2 : ng = 0 ∨ ng = 1)]
          · rw [eq_f h2, must_f, bdp_none]
            simp only [h1, h2, or_self, if_false]
theorem GetVersion_eq (N : Nat) (s : Str) (hN : 11 ≤ N) (hs : s.length + 1 < N) (hb : s.length ≤ 100000) : F_leaf_GetVersion N s = some (gvr s) := by
  unfold F_leaf_GetVersion gvr
  rw [show (8 : Int) = ((8 : Nat) : Int) from rfl, head_eq N s 2 8 true hN (by omega) (by omega) (by omega)]
  cases h : hd s 2 8 true with
  | none => rw [bdp_none]
  | some v =>
    obtain ⟨hl, _, hp, _⟩ := hd_ok h
    rw [bdp_some]
    by_cases h1 : v.2.length % 4 = 0
    · have : Int.tmod (v.2.length : Int) 4 = 0 := by rw [show (4 : Int) = ((4 : Nat) : Int) from rfl, ← Int.ofNat_tmod, h1]; rfl
      rw [eq_t this, must_t, bdp_some, ver_loop N hN v hl (v.2.length / 4) N v.2 [] (by omega) (by omega) (by simp; omega)]
      simp only [h1, if_true]
    · have : Int.tmod (v.2.length : Int) 4 ≠ 0 := by rw [show (4 : Int) = ((4 : Nat) : Int) from rfl, ← Int.ofNat_tmod]; omega
      rw [eq_f this, must_f, bdp_none]
      simp only [h1, if_false]

def tbl : List Int → List Hold → List Hold
  | a :: b :: r, acc => tbl r (acc ++ [Hold.mk a b])
  | _, acc => acc
def runs : List Str → List Run → Option (List Run)
  | [], acc => some acc
  | p :: r, acc => if (gints p).2.2 = 0 ∧ (gints p).2.1 = (p.length : Int) ∧ 4 ≤ (gints p).1.length ∧ (gints p).1.length % 2 = 0 then
      runs r (acc ++ [Run.mk ((gints p).1.getD 0 0) ((gints p).1.getD 1 0) (tbl ((gints p).1.drop 4) []) ((gints p).1.getD 2 0) ((gints p).1.getD 3 0)]) else none
def gbl (s : Str) : Block × Int :=
  match hd s 3 6 true with
  | none => (Block.mk 0 0 0 0 0 [], 11)
  | some v => match runs v.2 [] with
    | none => (Block.mk 0 0 0 0 0 [], 11)
    | some l => (Block.mk (v.1.getD 1 0) (v.1.getD 2 0) (v.1.getD 3 0) (v.1.getD 4 0) (v.1.getD 5 0) l, 0)
theorem tbl_loop (N : Nat) (k0 : Int → Int → Int → Int → Int → Int → Int → List Run → Option (Block × Int)) (a2 a3 a4 a5 a6 a7 a8 : Int) (a9 : List Run) (x13 x14 x15 x16 : Int) (h1 : 0 ≤ a2 ∧ a2 ≤ 1000000) (h2 : a9.length ≤ 1000000) :
    ∀ (k m : Nat) (l : List Int) (acc : List Hold), l.length = 2 * k → k < m → acc.length + k ≤ 1000000 →
    L_leaf_GetBlock_1 N k0 a2 a3 a4 a5 a6 a7 a8 a9 x13 x14 x15 x16 m l acc = k0 (a2 + 1) a3 a4 a5 a6 a7 a8 (a9 ++ [Run.mk x13 x14 (tbl l acc) x15 x16])
  | k, 0, l, acc, _, h, _ => by omega
  | 0, m + 1, l, acc, hl, _, _ => by
    have : l = [] := List.length_eq_zero_iff.1 (by omega)
    subst this
    rw [L_leaf_GetBlock_1]
    show if? false _ _ = _
    rw [if_false?, gd_of (by simp only [List.length_cons, List.length_nil]; omega), ck_of (by omega) (by omega)]
    rfl
  | k + 1, m + 1, l, acc, hl, hm, hb => by
    obtain ⟨a, b, r, rfl⟩ : ∃ a b r, l = a :: b :: r := by
      match l, hl with
      | a :: b :: r, _ => exact ⟨a, b, r, rfl⟩
      | [], h => simp at h
      | [_], h => simp at h; omega
    have e2 : ((a :: b :: r).drop (2 : Int).toNat).take ((a :: b :: r).length - (2 : Int).toNat) = r := by
      show r.take (r.length + 2 - 2) = r
      rw [Nat.add_sub_cancel, List.take_length]
    rw [L_leaf_GetBlock_1, show decide (((a :: b :: r).length : Int) > 0) = true from decide_eq_true (by simp only [List.length_cons]; omega), if_true?]
    show gd? ((acc.length + [Hold.mk a b].length) * 16 ≤ 140737488355328) _ = _
    rw [gd_of (by simp only [List.length_cons, List.length_nil]; omega), gd_of (by simp only [List.length_cons]; show 2 ≤ _; omega), e2, tbl_loop N k0 a2 a3 a4 a5 a6 a7 a8 a9 x13 x14 x15 x16 h1 h2 k m r _ (by simp only [List.length_cons] at hl; omega) (by omega) (by simp only [List.length_append, List.length_cons, List.length_nil]; omega)]
    rfl
theorem run_loop (N : Nat) (hN : 11 ≤ N) (v : List Int × List Str) (hv : v.1.length = 6) (hp : ∀ x ∈ v.2, x.length + 1 < N ∧ x.length ≤ 100000) (hb : v.2.length ≤ 100000) (z : Int) : ∀ (k i m : Nat) (acc : List Run), i + k = v.2.length → k < m → acc.length = i →
    L_leaf_GetBlock_0 N v m (i : Int) 0 0 0 0 0 z acc = some (match runs (v.2.drop i) acc with
      | none => (Block.mk 0 0 0 0 0 [], 11)
      | some l => (Block.mk (v.1.getD 1 0) (v.1.getD 2 0) (v.1.getD 3 0) (v.1.getD 4 0) (v.1.getD 5 0) l, 0))
  | k, i, 0, acc, _, h, _ => by omega
  | 0, i, m + 1, acc, hi, _, _ => by
    rw [L_leaf_GetBlock_0, show decide ((i : Int) < (v.2.length : Int)) = false from decide_eq_false (by omega), if_false?, List.drop_of_length_le (by omega), show (1 : Int) = ((1 : Nat) : Int) from rfl, get_D (d := 0) (by omega), show (2 : Int) = ((2 : Nat) : Int) from rfl, get_D (d := 0) (by omega), show (3 : Int) = ((3 : Nat) : Int) from rfl, get_D (d := 0) (by omega), show (4 : Int) = ((4 : Nat) : Int) from rfl, get_D (d := 0) (by omega), show (5 : Int) = ((5 : Nat) : Int) from rfl, get_D (d := 0) (by omega)]
    rfl
  | k + 1, i, m + 1, acc, hi, hm, ha => by
    have hlt : i < v.2.length := by omega
    obtain ⟨hx1, hx2⟩ := hp _ (List.getElem_mem hlt)
    rw [L_leaf_GetBlock_0, show decide ((i : Int) < (v.2.length : Int)) = true from decide_eq_true (by omega), if_true?, get_of hlt, GetInts_eq N _ hN (by omega) (by omega), bd_some, List.drop_eq_getElem_cons hlt, runs]
    generalize hp0 : v.2[i] = p at *
    rcases gints_ok p with ⟨e, u, h1, h2, h3, h4⟩ | h
    · rw [eq_t e, if_true?]
      by_cases hu : (gints p).2.1 = (p.length : Int)
      · rw [eq_t hu, if_true?]
        by_cases hl : 4 ≤ (gints p).1.length
        · rw [show decide (((gints p).1.length : Int) ≥ 4) = true from decide_eq_true (by omega), if_true?]
          by_cases h2 : (gints p).1.length % 2 = 0
          · have : Int.tmod ((gints p).1.length : Int) 2 = 0 := by rw [show (2 : Int) = ((2 : Nat) : Int) from rfl, ← Int.ofNat_tmod, h2]; rfl
            rw [eq_t this, must_t, bdp_some, if_pos ⟨e, hu, hl, h2⟩, show get? (gints p).1 0 = get? (gints p).1 ((0 : Nat) : Int) from rfl, get_D (d := 0) (by omega), show (1 : Int) = ((1 : Nat) : Int) from rfl, get_D (d := 0) (by omega), show (2 : Int) = ((2 : Nat) : Int) from rfl, get_D (d := 0) (by omega), show (3 : Int) = ((3 : Nat) : Int) from rfl, get_D (d := 0) (by omega), gd_of (by show 4 ≤ _; omega)]
            rw [show (((gints p).1.drop (4 : Int).toNat).take ((gints p).1.length - (4 : Int).toNat)) = (gints p).1.drop 4 from List.take_of_length_le (by rw [List.length_drop]; exact Nat.le_refl _)]
            rw [tbl_loop N _ _ _ _ _ _ _ _ _ _ _ _ _ (by omega) (by omega) (((gints p).1.length - 4) / 2) N _ _ (by rw [List.length_drop]; omega) (by omega) (by simp; omega)]
            exact run_loop N hN v hv hp hb z k (i + 1) m _ (by omega) (by omega) (by simp [ha])
          · have : Int.tmod ((gints p).1.length : Int) 2 ≠ 0 := by rw [show (2 : Int) = ((2 : Nat) : Int) from rfl, ← Int.ofNat_tmod]; omega
            rw [eq_f this, must_f, bdp_none, if_neg (fun q => h2 q.2.2.2)]
        · rw [show decide (((gints p).1.length : Int) ≥ 4) = false from decide_eq_false (by omega), if_false?, must_f, bdp_none, if_neg (fun q => hl q.2.2.1)]
      · rw [eq_f hu, if_false?, must_f, bdp_none, if_neg (fun q => hu q.2.1)]
    · rw [eq_f h, if_false?, must_f, bdp_none, if_neg (fun q => h q.1)]
theorem GetBlock_eq (N : Nat) (s : Str) (hN : 11 ≤ N) (hs : s.length + 1 < N) (hb : s.length ≤ 100000) : F_leaf_GetBlock N s = some (gbl s) := by
  unfold F_leaf_GetBlock gbl
  rw [show (6 : Int) = ((6 : Nat) : Int) from rfl, head_eq N s 3 6 true hN (by omega) (by omega) (by omega)]
  cases h : hd s 3 6 true with
  | none => rw [bdp_none]
  | some v =>
    obtain ⟨hl, _, hp, hq⟩ := hd_ok h
    rw [bdp_some]
    exact run_loop N hN v hl (fun x hx => by have := hq x hx; omega) (by omega) 0 v.2.length 0 N [] (by omega) (by omega) rfl
end Go.Proofs.Tryd
namespace Go.Proofs.Tryd
open Go.Eng Go.Lib

def uvI (n : Int) : Str := uvarint (zigzag n)
def encI (l : List Int) : Str := uvI (l.length : Int) ++ l.flatMap uvI
def encB (s : Str) : Str := uvI (s.length : Int) ++ s
def encS (l : List Str) : Str := uvI (l.length : Int) ++ l.flatMap encB
theorem zig_lt {n : Int} (h : I64 n) : zigzag n < 18446744073709551616 := by
  obtain ⟨h1, h2⟩ := h
  unfold zigzag; split <;> omega
theorem unz_zig (n : Int) : unz (zigzag n) = n := by
  unfold unz zigzag
  split <;> split <;> omega
theorem uvI_len {n : Int} (h : I64 n) : 1 ≤ (uvI n).length ∧ (uvI n).length ≤ 10 := ⟨uvarint_pos _, uvarint_length64 (zig_lt h)⟩

theorem giN_enc (r : Str) : ∀ (x k z : Nat), z + x * 128 ^ k < 18446744073709551616 → (0 < x ∨ k = 0) → giN k z (uvarint x ++ r) = (unz (z + x * 128 ^ k), ((k + (uvarint x).length : Nat) : Int), 0) := by
  intro x
  induction x using Nat.strongRecOn with
  | _ x ih =>
    intro k z hb h1
    have h2 : k = 9 → x ≤ 1 := fun e => by
      subst e
      have : 128 ^ 9 = 9223372036854775808 := rfl
      rw [this] at hb; omega
    by_cases hx : x < 128
    · rw [uvarint_small hx, List.singleton_append, giN]
      have hc : x.toUInt8.toNat = x := by show x % 256 = x; omega
      rw [hc, if_neg (by omega), if_pos hx, Nat.mod_eq_of_lt hx]
      rfl
    · rw [uvarint_big (by omega), List.cons_append, giN]
      have hc : (x % 128 + 128).toUInt8.toNat = x % 128 + 128 := by show (x % 128 + 128) % 256 = _; omega
      have e : z + x % 128 * 128 ^ k + x / 128 * 128 ^ (k + 1) = z + x * 128 ^ k := by
        have h3 : x / 128 * 128 ^ (k + 1) = (x / 128 * 128) * 128 ^ k := by rw [Nat.pow_succ, Nat.mul_comm (128 ^ k) 128, Nat.mul_assoc]
        rw [h3, Nat.add_assoc, ← Nat.add_mul]
        congr 2
        omega
      rw [hc, if_neg (by omega), if_neg (by omega), show (x % 128 + 128) % 128 = x % 128 by omega, ih (x / 128) (by omega) (k + 1) _ (by rw [e]; exact hb) (.inl (by omega)), e, List.length_cons]
      have : k + 1 + (uvarint (x / 128)).length = k + ((uvarint (x / 128)).length + 1) := by omega
      rw [this]
theorem gi_enc {n : Int} (h : I64 n) (r : Str) : gi (uvI n ++ r) = (n, ((uvI n).length : Int), 0) := by
  unfold gi uvI
  rw [giN_enc r (zigzag n) 0 0 (by have := zig_lt h; omega) (.inr rfl), Nat.zero_add, Nat.pow_zero, Nat.mul_one, unz_zig, Nat.zero_add]
theorem nat_I64 {n : Nat} (h : n ≤ 1000000) : I64 (n : Int) := ⟨by omega, by omega⟩
theorem lenW_enc {n : Nat} (h : n ≤ 1000000) (r : Str) (hr : n ≤ r.length) : lenW (uvI (n : Int) ++ r) = ((n : Int), ((uvI (n : Int)).length : Int), 0) := by
  unfold lenW
  rw [gi_enc (nat_I64 h)]
  rw [if_neg (by simp), if_neg (by simp only; omega), if_neg (by simp only [List.length_append]; omega)]
theorem flat_len {α : Type} (f : α → Str) : ∀ (l : List α), (∀ x ∈ l, 1 ≤ (f x).length) → l.length ≤ (l.flatMap f).length
  | [], _ => Nat.le_refl _
  | x :: l, h => by
    rw [List.flatMap_cons, List.length_append, List.length_cons]
    have := flat_len f l (fun y hy => h y (by simp [hy]))
    have := h x (by simp)
    omega
theorem drop_app {α : Type} (a b : List α) : (a ++ b).drop a.length = b := by rw [List.drop_append, List.drop_of_length_le (Nat.le_refl _), List.nil_append, Nat.sub_self, List.drop_zero]
theorem take_app {α : Type} (a b : List α) : (a ++ b).take a.length = a := by rw [List.take_append, List.take_of_length_le (Nat.le_refl _), Nat.sub_self, List.take_zero, List.append_nil]
theorem getsI_enc (r : Str) : ∀ (l : List Int) (a : Nat) (acc : List Int), (∀ x ∈ l, I64 x) → getsI l.length (l.flatMap uvI ++ r) (a : Int) acc = (acc ++ l, ((a + (l.flatMap uvI).length : Nat) : Int), 0)
  | [], a, acc, _ => by rw [List.append_nil]; rfl
  | x :: l, a, acc, h => by
    rw [List.flatMap_cons, List.append_assoc, List.length_cons, getsI, gi_enc (h x (by simp))]
    rw [if_neg (by simp)]
    show getsI l.length ((uvI x ++ (l.flatMap uvI ++ r)).drop ((uvI x).length : Int).toNat) ((a : Int) + ((uvI x).length : Int)) (acc ++ [x]) = _
    rw [Int.toNat_natCast, drop_app, show ((a : Int) + ((uvI x).length : Int)) = ((a + (uvI x).length : Nat) : Int) by omega, getsI_enc r l _ _ (fun y hy => h y (by simp [hy])), List.append_assoc, List.length_append, Nat.add_assoc]
    rfl
theorem gints_enc {l : List Int} (h : ∀ x ∈ l, I64 x) (hl : l.length ≤ 1000000) (r : Str) : gints (encI l ++ r) = (l, ((encI l).length : Int), 0) := by
  unfold gints encI
  have := flat_len uvI l (fun x hx => (uvI_len (h x hx)).1)
  rw [List.append_assoc, lenW_enc hl _ (by rw [List.length_append]; omega), if_neg (by simp)]
  show getsI (l.length : Int).toNat ((uvI (l.length : Int) ++ (l.flatMap uvI ++ r)).drop ((uvI (l.length : Int)).length : Int).toNat) ((uvI (l.length : Int)).length : Int) [] = _
  rw [Int.toNat_natCast, Int.toNat_natCast, drop_app, getsI_enc r l _ _ h, List.nil_append, List.length_append]
theorem gbytes_enc {s : Str} (h : s.length ≤ 1000000) (r : Str) : gbytes (encB s ++ r) = (s, ((encB s).length : Int), 0) := by
  unfold gbytes encB
  rw [List.append_assoc, lenW_enc h _ (by rw [List.length_append]; omega), if_neg (by simp)]
  show (((uvI (s.length : Int) ++ (s ++ r)).drop ((uvI (s.length : Int)).length : Int).toNat).take (s.length : Int).toNat, _, _) = _
  rw [Int.toNat_natCast, Int.toNat_natCast, drop_app, take_app, List.length_append]
  refine congrArg (fun x => (s, x, (0 : Int))) ?_
  show ((uvI (s.length : Int)).length : Int) + (s.length : Int) = _
  omega
theorem encB_len {s : Str} (h : s.length ≤ 1000000) : 1 ≤ (encB s).length := by
  unfold encB
  have := (uvI_len (nat_I64 h)).1
  rw [List.length_append]; omega
theorem getsS_enc (r : Str) : ∀ (l : List Str) (a : Nat) (acc : List Str), (∀ x ∈ l, x.length ≤ 1000000) → getsS l.length (l.flatMap encB ++ r) (a : Int) acc = (acc ++ l, ((a + (l.flatMap encB).length : Nat) : Int), 0)
  | [], a, acc, _ => by rw [List.append_nil]; rfl
  | x :: l, a, acc, h => by
    rw [List.flatMap_cons, List.append_assoc, List.length_cons, getsS, gbytes_enc (h x (by simp))]
    rw [if_neg (by simp)]
    show getsS l.length ((encB x ++ (l.flatMap encB ++ r)).drop ((encB x).length : Int).toNat) ((a : Int) + ((encB x).length : Int)) (acc ++ [x]) = _
    rw [Int.toNat_natCast, drop_app, show ((a : Int) + ((encB x).length : Int)) = ((a + (encB x).length : Nat) : Int) by omega, getsS_enc r l _ _ (fun y hy => h y (by simp [hy])), List.append_assoc, List.length_append, Nat.add_assoc]
    rfl
theorem gstrs_enc {l : List Str} (h : ∀ x ∈ l, x.length ≤ 1000000) (hl : l.length ≤ 1000000) (r : Str) : gstrs (encS l ++ r) = (l, ((encS l).length : Int), 0) := by
  unfold gstrs encS
  have := flat_len encB l (fun x hx => encB_len (h x hx))
  rw [List.append_assoc, lenW_enc hl _ (by rw [List.length_append]; omega), if_neg (by simp)]
  show getsS (l.length : Int).toNat ((uvI (l.length : Int) ++ (l.flatMap encB ++ r)).drop ((uvI (l.length : Int)).length : Int).toNat) ((uvI (l.length : Int)).length : Int) [] = _
  rw [Int.toNat_natCast, Int.toNat_natCast, drop_app, getsS_enc r l _ _ h, List.nil_append, List.length_append]

theorem hd_false {l : List Int} (h : ∀ x ∈ l, I64 x) (hl : l.length ≤ 1000000) (k : Int) (c : Nat) (h1 : l.length = c) (h2 : l.getD 0 0 = k) : hd (encI l) k c false = some (l, []) := by
  unfold hd
  have := gints_enc h hl []
  rw [List.append_nil] at this
  rw [this, if_pos ⟨rfl, h1, h2⟩, if_neg (by decide), if_pos rfl]
theorem hd_true {l : List Int} {p : List Str} (h : ∀ x ∈ l, I64 x) (hl : l.length ≤ 1000000) (hp : ∀ x ∈ p, x.length ≤ 1000000) (hpl : p.length ≤ 1000000) (k : Int) (c : Nat) (h1 : l.length = c) (h2 : l.getD 0 0 = k) : hd (encI l ++ encS p) k c true = some (l, p) := by
  unfold hd
  rw [gints_enc h hl (encS p), if_pos ⟨rfl, h1, h2⟩, if_pos rfl]
  have e : (encI l ++ encS p).drop ((l, ((encI l).length : Int), (0 : Int)).2.1).toNat = encS p := by
    show (encI l ++ encS p).drop ((encI l).length : Int).toNat = encS p
    rw [Int.toNat_natCast, drop_app]
  rw [e]
  have := gstrs_enc hp hpl []
  rw [List.append_nil] at this
  rw [this, if_pos ⟨rfl, by simp only [List.length_append]; omega⟩]
theorem hd_none {l : List Int} (h : ∀ x ∈ l, I64 x) (hl : l.length ≤ 1000000) (r : Str) (k : Int) (c : Nat) (more : Bool) (h1 : l.length ≠ c) : hd (encI l ++ r) k c more = none := by
  unfold hd
  rw [gints_enc h hl r, if_neg (fun q => h1 q.2.1)]
end Go.Proofs.Tryd
namespace Go.Proofs.Tryd
open Go.Eng Go.Lib

theorem get_drop {α : Type} {l : List α} {i : Nat} (h : i < l.length) : l.drop i = l[i] :: l.drop (i + 1) := List.drop_eq_getElem_cons h
theorem intsS_len' (s : Str) : (intsS s).length = s.length := intsS_len
theorem lint_loop (N : Nat) (hN : 20 ≤ N) (l : List Int) (h : ∀ x ∈ l, I64 x) (hl : l.length ≤ 100000) : ∀ (k i m : Nat) (acc : List Int), i + k = l.length → k < m → acc.length ≤ 10 + 10 * i → L_wire_list_int_0 N l m (i : Int) acc = some (acc ++ intsS ((l.drop i).flatMap uvI))
  | k, i, 0, acc, _, h, _ => by omega
  | 0, i, m + 1, acc, hi, _, _ => by
    rw [L_wire_list_int_0, show decide ((i : Int) < (l.length : Int)) = false from decide_eq_false (by omega), if_false?, List.drop_of_length_le (by omega)]
    exact congrArg some (List.append_nil acc).symm
  | k + 1, i, m + 1, acc, hi, hm, ha => by
    have hlt : i < l.length := by omega
    have hx := h _ (List.getElem_mem hlt)
    have hu := uvI_len hx
    rw [L_wire_list_int_0, show decide ((i : Int) < (l.length : Int)) = true from decide_eq_true (by omega), if_true?, get_of hlt, Int_enc N _ hN hx, bd_some]
    show gd? ((acc.length + (intsS (uvI l[i])).length) * 1 ≤ 140737488355328) _ = _
    rw [gd_of (by rw [intsS_len']; omega), ck_of (by omega) (by omega), show ((i : Int) + 1) = ((i + 1 : Nat) : Int) by omega, lint_loop N hN l h hl k (i + 1) m _ (by omega) (by omega) (by rw [List.length_append]; show _ + (intsS (uvI l[i])).length ≤ _; rw [intsS_len']; omega), get_drop hlt, List.flatMap_cons, intsS_app, List.append_assoc]
    rfl
theorem numbers_eq (N : Nat) (hN : 20 ≤ N) (l : List Int) (h : ∀ x ∈ l, I64 x) (hl : l.length < N) (hb : l.length ≤ 100000) : F_leaf_numbers N l = some (encI l) := by
  unfold F_leaf_numbers F_wire_Ints F_wire_list_int
  rw [Int_enc N _ hN (nat_I64 (by omega)), bd_some]
  have hu := uvI_len (nat_I64 (show l.length ≤ 1000000 by omega))
  have := lint_loop N hN l h hb l.length 0 N (intsS (uvI (l.length : Int))) (by omega) hl (by rw [intsS_len']; omega)
  rw [show (((0 : Nat) : Int)) = 0 from rfl] at this
  show bd? (bd? (L_wire_list_int_0 N l N 0 (intsS (uvI (l.length : Int)))) _) _ = _
  rw [this, bd_some, bd_some, List.drop_zero, ← intsS_app, bytesI_ints]
  rfl
theorem Bytes_enc (N : Nat) (hN : 20 ≤ N) (s : Str) (hs : s.length ≤ 1000000) : F_wire_Bytes N s = some (intsS (encB s)) := by
  unfold F_wire_Bytes
  have hu := uvI_len (nat_I64 hs)
  rw [Int_enc N _ hN (nat_I64 hs), bd_some]
  show gd? (((intsS (uvI (s.length : Int))).length + (intsS s).length) * 1 ≤ 140737488355328) (some (intsS (uvI (s.length : Int)) ++ intsS s)) = _
  rw [gd_of (by rw [intsS_len', intsS_len']; omega), ← intsS_app]
  rfl
theorem lstr_loop (N : Nat) (hN : 20 ≤ N) (l : List Str) (h : ∀ x ∈ l, x.length ≤ 100000) (hl : l.length ≤ 100000) : ∀ (k i m : Nat) (acc : List Int), i + k = l.length → k < m → acc.length ≤ 10 + 200000 * i → L_wire_list_string_0 N l m (i : Int) acc = some (acc ++ intsS ((l.drop i).flatMap encB))
  | k, i, 0, acc, _, h, _ => by omega
  | 0, i, m + 1, acc, hi, _, _ => by
    rw [L_wire_list_string_0, show decide ((i : Int) < (l.length : Int)) = false from decide_eq_false (by omega), if_false?, List.drop_of_length_le (by omega)]
    exact congrArg some (List.append_nil acc).symm
  | k + 1, i, m + 1, acc, hi, hm, ha => by
    have hlt : i < l.length := by omega
    have hx := h _ (List.getElem_mem hlt)
    have hu : (encB l[i]).length ≤ 200000 := by
      unfold encB
      have := (uvI_len (nat_I64 (show (l[i]).length ≤ 1000000 by omega))).2
      rw [List.length_append]; omega
    rw [L_wire_list_string_0, show decide ((i : Int) < (l.length : Int)) = true from decide_eq_true (by omega), if_true?, get_of hlt, Bytes_enc N hN _ (by omega), bd_some]
    rw [gd_of (by rw [intsS_len']; omega), ck_of (by omega) (by omega), show ((i : Int) + 1) = ((i + 1 : Nat) : Int) by omega, lstr_loop N hN l h hl k (i + 1) m _ (by omega) (by omega) (by rw [List.length_append, intsS_len']; omega), get_drop hlt, List.flatMap_cons, intsS_app, List.append_assoc]
theorem Strings_eq (N : Nat) (hN : 20 ≤ N) (l : List Str) (h : ∀ x ∈ l, x.length ≤ 100000) (hl : l.length < N) (hb : l.length ≤ 100000) : F_wire_Strings N l = some (intsS (encS l)) := by
  unfold F_wire_Strings F_wire_list_string
  rw [Int_enc N _ hN (nat_I64 (by omega)), bd_some]
  have hu := uvI_len (nat_I64 (show l.length ≤ 1000000 by omega))
  have := lstr_loop N hN l h hb l.length 0 N (intsS (uvI (l.length : Int))) (by omega) hl (by rw [intsS_len']; omega)
  rw [show (((0 : Nat) : Int)) = 0 from rfl] at this
  show bd? (L_wire_list_string_0 N l N 0 (intsS (uvI (l.length : Int)))) _ = _
  rw [this, bd_some, List.drop_zero, ← intsS_app]
  rfl

def encR (r : Reading) : Str := encI [1, r.Gauge, r.Seq, r.From, r.To, r.Stage, r.Known]
def okR (r : Reading) : Prop := I64 r.Gauge ∧ I64 r.Seq ∧ I64 r.From ∧ I64 r.To ∧ I64 r.Stage ∧ I64 r.Known
theorem I64_lit : I64 0 ∧ I64 1 ∧ I64 2 ∧ I64 3 := ⟨⟨by decide, by decide⟩, ⟨by decide, by decide⟩, ⟨by decide, by decide⟩, ⟨by decide, by decide⟩⟩
theorem okR_l {r : Reading} (h : okR r) : ∀ x ∈ [1, r.Gauge, r.Seq, r.From, r.To, r.Stage, r.Known], I64 x := by
  obtain ⟨h1, h2, h3, h4, h5, h6⟩ := h
  intro x hx
  simp only [List.mem_cons, List.not_mem_nil, or_false] at hx
  rcases hx with rfl | rfl | rfl | rfl | rfl | rfl | rfl
  · exact I64_lit.2.1
  all_goals assumption
theorem Reading_eq (N : Nat) (hN : 20 ≤ N) {r : Reading} (h : okR r) : F_leaf_Reading N r = some (encR r) := by
  unfold F_leaf_Reading
  rw [numbers_eq N hN _ (okR_l h) (by simp only [List.length_cons, List.length_nil]; omega) (by simp only [List.length_cons, List.length_nil]; omega), bd_some]
  rfl
theorem grd_enc {r : Reading} (h : okR r) : grd (encR r) = (r, 0) := by
  unfold grd encR
  rw [hd_false (okR_l h) (by simp only [List.length_cons, List.length_nil]; omega) 1 7 rfl rfl]
  rfl

def sg (b : Bool) : Int := if b then 1 else 0
def prt (p : Point) : List Str := [uvI p.Stage, uvI (sg p.Flow.Neg), p.Flow.Num, p.Flow.Den]
def vl (v : Version) : List Int := [2, v.Kind, v.Gauge, v.Seq, v.Known, v.From, v.To, v.Shift]
def encV (v : Version) : Str := encI (vl v) ++ encS (v.Curve.Points.flatMap prt)
def okV (v : Version) : Prop := (∀ x ∈ vl v, I64 x) ∧ v.Curve.Points.length ≤ 1000 ∧ ∀ p ∈ v.Curve.Points, I64 p.Stage ∧ p.Flow.Num.length ≤ 12 ∧ p.Flow.Den.length ≤ 12
theorem sg_I64 (b : Bool) : I64 (sg b) := by cases b <;> exact ⟨by decide, by decide⟩
theorem prt_len (l : List Point) : (l.flatMap prt).length = 4 * l.length := by
  induction l with
  | nil => rfl
  | cons x l ih => rw [List.flatMap_cons, List.length_append, ih, List.length_cons]; show 4 + _ = _; omega
theorem prt_ok {l : List Point} (h : ∀ p ∈ l, I64 p.Stage ∧ p.Flow.Num.length ≤ 12 ∧ p.Flow.Den.length ≤ 12) : ∀ x ∈ l.flatMap prt, x.length ≤ 12 := fun x hx => by
  obtain ⟨p, hp, hx⟩ := List.mem_flatMap.1 hx
  obtain ⟨h1, h2, h3⟩ := h p hp
  unfold prt at hx
  simp only [List.mem_cons, List.not_mem_nil, or_false] at hx
  rcases hx with rfl | rfl | rfl | rfl
  · have := (uvI_len h1).2; omega
  · have := (uvI_len (sg_I64 p.Flow.Neg)).2; omega
  · exact h2
  · exact h3
theorem take_next {α : Type} (l : List α) (i : Nat) (h : i < l.length) : l.take (i + 1) = l.take i ++ [l[i]] := by
  rw [List.take_add_one, List.getElem?_eq_getElem h]; rfl
theorem vwr_loop (N : Nat) (hN : 20 ≤ N) (v : Version) (hv : okV v) (hl : 4 * v.Curve.Points.length < N) : ∀ (k i m : Nat), i + k = v.Curve.Points.length → k < m → L_leaf_Version_0 N v m (i : Int) ((v.Curve.Points.take i).flatMap prt) = some (encV v)
  | k, i, 0, _, h => by omega
  | 0, i, m + 1, hi, _ => by
    obtain ⟨h1, h2, h3⟩ := hv
    rw [L_leaf_Version_0, show decide ((i : Int) < (v.Curve.Points.length : Int)) = false from decide_eq_false (by omega), if_false?, List.take_of_length_le (by omega)]
    have e := numbers_eq N hN (vl v) h1 (by show 8 < N; omega) (by show 8 ≤ _; omega)
    show bd? (F_leaf_numbers N (vl v)) _ = _
    rw [e, bd_some, Strings_eq N hN _ (fun x hx => by have := prt_ok h3 x hx; omega) (by rw [prt_len]; omega) (by rw [prt_len]; omega), bd_some, bytesI_ints]
    refine gd_of ?_
    have : ∀ l : List Str, (∀ x ∈ l, x.length ≤ 12) → (l.flatMap encB).length ≤ 22 * l.length := fun l => by
      induction l with
      | nil => intro _; exact Nat.le_refl _
      | cons x l ih =>
        intro h
        have h1 := ih (fun y hy => h y (by simp [hy]))
        have h2 := h x (by simp)
        have h3 := (uvI_len (nat_I64 (show x.length ≤ 1000000 by omega))).2
        have h4 : (encB x).length ≤ 22 := by unfold encB; rw [List.length_append]; omega
        rw [List.flatMap_cons, List.length_append, List.length_cons]; omega
    have h4 := this _ (prt_ok h3)
    rw [prt_len] at h4
    have h5 := (uvI_len (nat_I64 (show (v.Curve.Points.flatMap prt).length ≤ 1000000 by rw [prt_len]; omega))).2
    have h6 : ∀ l : List Int, (∀ x ∈ l, I64 x) → (l.flatMap uvI).length ≤ 10 * l.length := fun l => by
      induction l with
      | nil => intro _; exact Nat.le_refl _
      | cons x l ih =>
        intro h
        have h1 := ih (fun y hy => h y (by simp [hy]))
        have h2 := (uvI_len (h x (by simp))).2
        rw [List.flatMap_cons, List.length_append, List.length_cons]; omega
    have h7 := h6 _ h1
    have h8 := (uvI_len (nat_I64 (show (vl v).length ≤ 1000000 by show 8 ≤ _; omega))).2
    have h9 : (vl v).length = 8 := rfl
    unfold encI encS
    rw [List.length_append, List.length_append]
    omega
  | k + 1, i, m + 1, hi, hm => by
    have hlt : i < v.Curve.Points.length := by omega
    obtain ⟨h1, h2, h3⟩ := hv
    obtain ⟨g1, g2, g3⟩ := h3 _ (List.getElem_mem hlt)
    have hlen : ((v.Curve.Points.take i).flatMap prt).length ≤ 4000 := by rw [prt_len, List.length_take]; omega
    rw [L_leaf_Version_0, show decide ((i : Int) < (v.Curve.Points.length : Int)) = true from decide_eq_true (by omega), if_true?, get_of hlt, Int_enc N _ hN g1, Int_enc N 1 hN I64_lit.2.1, Int_enc N 0 hN I64_lit.1]
    simp only [bd_some, bytesI_ints]
    have ih := vwr_loop N hN v ⟨h1, h2, h3⟩ hl k (i + 1) m (by omega) (by omega)
    rw [take_next _ _ hlt, List.flatMap_append] at ih
    have e : ([v.Curve.Points[i]] : List Point).flatMap prt = [uvI v.Curve.Points[i].Stage, uvI (sg v.Curve.Points[i].Flow.Neg), v.Curve.Points[i].Flow.Num, v.Curve.Points[i].Flow.Den] := by
      rw [List.flatMap_cons, List.flatMap_nil, List.append_nil]; rfl
    rw [e] at ih
    generalize v.Curve.Points[i] = p at *
    cases hn : p.Flow.Neg with
    | true =>
      rw [hn] at ih
      rw [if_true?, gd_of (by simp only [List.length_cons, List.length_nil]; omega), ck_of (by omega) (by omega)]
      exact ih
    | false =>
      rw [hn] at ih
      rw [if_false?, gd_of (by simp only [List.length_cons, List.length_nil]; omega), ck_of (by omega) (by omega)]
      exact ih
theorem Version_eq (N : Nat) (hN : 20 ≤ N) {v : Version} (h : okV v) (hl : 4 * v.Curve.Points.length < N) : F_leaf_Version N v = some (encV v) := by
  unfold F_leaf_Version
  exact vwr_loop N hN v h hl v.Curve.Points.length 0 N (by omega) (by omega)
theorem one_enc {n : Int} (h : I64 n) : one (uvI n) = some n := by
  unfold one
  have := gi_enc h []
  rw [List.append_nil] at this
  rw [this, if_pos ⟨rfl, rfl⟩]
theorem pts_enc : ∀ (l acc : List Point), (∀ p ∈ l, I64 p.Stage) → pts (l.flatMap prt) acc = some (acc ++ l)
  | [], acc, _ => by rw [List.append_nil]; rfl
  | p :: l, acc, h => by
    rw [List.flatMap_cons]
    show pts (uvI p.Stage :: uvI (sg p.Flow.Neg) :: p.Flow.Num :: p.Flow.Den :: l.flatMap prt) acc = _
    rw [pts, one_enc (h p (by simp)), one_enc (sg_I64 _)]
    have e : Point.mk p.Stage (Rat.mk (sg p.Flow.Neg == 1) p.Flow.Num p.Flow.Den) = p := by
      obtain ⟨st, ng, a, b⟩ := p
      cases ng <;> rfl
    have h1 : sg p.Flow.Neg = 0 ∨ sg p.Flow.Neg = 1 := by cases p.Flow.Neg <;> simp [sg]
    simp only [if_pos h1]
    rw [e, pts_enc l _ (fun q hq => h q (by simp [hq])), List.append_assoc]
    rfl
theorem gvr_enc {v : Version} (h : okV v) : gvr (encV v) = (v, 0) := by
  obtain ⟨h1, h2, h3⟩ := h
  unfold gvr encV
  rw [hd_true h1 (by show 8 ≤ _; omega) (fun x hx => by have := prt_ok h3 x hx; omega) (by rw [prt_len]; omega) 2 8 rfl rfl]
  simp only
  rw [if_pos (by rw [prt_len]; omega), pts_enc _ [] (fun p hp => (h3 p hp).1)]
  rfl
end Go.Proofs.Tryd
namespace Go.Proofs.Tryd
open Go.Eng Go.Lib

def hl (h : Hold) : List Int := [h.Stage, h.Ticks]
def rl (r : Run) : List Int := [r.From, r.To, r.Lo, r.Hi] ++ r.Table.flatMap hl
def bl (b : Block) : List Int := [3, b.Gauge, b.Level, b.From, b.To, b.Known]
def encK (b : Block) : Str := encI (bl b) ++ encS (b.Runs.map fun r => encI (rl r))
def okK (b : Block) : Prop := (∀ x ∈ bl b, I64 x) ∧ b.Runs.length ≤ 12 ∧ ∀ r ∈ b.Runs, r.Table.length ≤ 20 ∧ ∀ x ∈ rl r, I64 x
theorem hl_len (l : List Hold) : (l.flatMap hl).length = 2 * l.length := by
  induction l with
  | nil => rfl
  | cons x l ih => rw [List.flatMap_cons, List.length_append, ih, List.length_cons]; show 2 + _ = _; omega
theorem rl_len (r : Run) : (rl r).length = 4 + 2 * r.Table.length := by
  unfold rl; rw [List.length_append, hl_len]; rfl
theorem enc_len : ∀ l : List Int, (∀ x ∈ l, I64 x) → (l.flatMap uvI).length ≤ 10 * l.length
  | [], _ => Nat.le_refl _
  | x :: l, h => by
    have h1 := enc_len l (fun y hy => h y (by simp [hy]))
    have h2 := (uvI_len (h x (by simp))).2
    rw [List.flatMap_cons, List.length_append, List.length_cons]; omega
theorem encI_len {l : List Int} (h : ∀ x ∈ l, I64 x) (hb : l.length ≤ 1000000) : (encI l).length ≤ 10 * l.length + 10 := by
  have h1 := enc_len l h
  have h2 := (uvI_len (nat_I64 hb)).2
  unfold encI; rw [List.length_append]; omega
theorem encS_len {l : List Str} {k : Nat} (hk : k ≤ 100000) (h : ∀ x ∈ l, x.length ≤ k) (hb : l.length ≤ 1000000) : (encS l).length ≤ (k + 10) * l.length + 10 := by
  have h1 : ∀ l : List Str, (∀ x ∈ l, x.length ≤ k) → (l.flatMap encB).length ≤ (k + 10) * l.length := fun l => by
    induction l with
    | nil => intro _; exact Nat.le_refl _
    | cons x l ih =>
      intro h
      have h1 := ih (fun y hy => h y (by simp [hy]))
      have h2 := h x (by simp)
      have h3 := (uvI_len (nat_I64 (show x.length ≤ 1000000 by omega))).2
      have h4 : (encB x).length ≤ k + 10 := by unfold encB; rw [List.length_append]; omega
      rw [List.flatMap_cons, List.length_append, List.length_cons, Nat.mul_add]; omega
  have h2 := h1 l h
  have h3 := (uvI_len (nat_I64 hb)).2
  unfold encS; rw [List.length_append]; omega
theorem row_loop (N : Nat) (hN : 100 ≤ N) (k0 : Int → Int → Int → Int → Int → Int → List Run → List Str → Option Str) (a1 a2 a3 a4 a5 a6 : Int) (a7 : List Run) (a8 : List Str) (x : Run) (h1 : 0 ≤ a1 ∧ a1 ≤ 1000) (h2 : a8.length ≤ 1000) (hx : x.Table.length ≤ 20) (hI : ∀ y ∈ rl x, I64 y) :
    ∀ (k j m : Nat), j + k = x.Table.length → k < m → L_leaf_Block_1 N k0 a1 a2 a3 a4 a5 a6 a7 a8 x m (j : Int) ([x.From, x.To, x.Lo, x.Hi] ++ (x.Table.take j).flatMap hl) = k0 (a1 + 1) a2 a3 a4 a5 a6 a7 (a8 ++ [encI (rl x)])
  | k, j, 0, _, h => by omega
  | 0, j, m + 1, hj, _ => by
    rw [L_leaf_Block_1, show decide ((j : Int) < (x.Table.length : Int)) = false from decide_eq_false (by omega), if_false?, List.take_of_length_le (by omega)]
    have e := numbers_eq N (by omega) (rl x) hI (by rw [rl_len]; omega) (by rw [rl_len]; omega)
    show bd? (F_leaf_numbers N (rl x)) _ = _
    rw [e, bd_some, gd_of (by simp only [List.length_cons, List.length_nil]; omega), ck_of (by omega) (by omega)]
  | k + 1, j, m + 1, hj, hm => by
    have hlt : j < x.Table.length := by omega
    rw [L_leaf_Block_1, show decide ((j : Int) < (x.Table.length : Int)) = true from decide_eq_true (by omega), if_true?, get_of hlt, gd_of (by rw [List.length_append, hl_len, List.length_take]; simp only [List.length_cons, List.length_nil]; omega), ck_of (by omega) (by omega)]
    have ih := row_loop N hN k0 a1 a2 a3 a4 a5 a6 a7 a8 x h1 h2 hx hI k (j + 1) m (by omega) (by omega)
    rw [take_next _ _ hlt, List.flatMap_append, ← List.append_assoc] at ih
    have e : ([x.Table[j]] : List Hold).flatMap hl = [x.Table[j].Stage, x.Table[j].Ticks] := by
      rw [List.flatMap_cons, List.flatMap_nil, List.append_nil]; rfl
    rw [e] at ih
    exact ih
theorem bwr_loop (N : Nat) (hN : 100 ≤ N) (b : Block) (hb : okK b) : ∀ (k i m : Nat), i + k = b.Runs.length → k < m → L_leaf_Block_0 N b m (i : Int) b.Gauge b.Level b.From b.To b.Known b.Runs ((b.Runs.take i).map fun r => encI (rl r)) = some (encK b)
  | k, i, 0, _, h => by omega
  | 0, i, m + 1, hi, _ => by
    obtain ⟨h1, h2, h3⟩ := hb
    rw [L_leaf_Block_0, show decide ((i : Int) < (b.Runs.length : Int)) = false from decide_eq_false (by omega), if_false?, List.take_of_length_le (by omega)]
    have e := numbers_eq N (by omega) (bl b) h1 (by show 6 < N; omega) (by show 6 ≤ _; omega)
    show bd? (F_leaf_numbers N (bl b)) _ = _
    have hs : ∀ x ∈ b.Runs.map (fun r => encI (rl r)), x.length ≤ 450 := fun x hx => by
      obtain ⟨r, hr, rfl⟩ := List.mem_map.1 hx
      obtain ⟨g1, g2⟩ := h3 r hr
      have := encI_len g2 (by rw [rl_len]; omega)
      rw [rl_len] at this; omega
    rw [e, bd_some, Strings_eq N (by omega) _ (fun x hx => by have := hs x hx; omega) (by rw [List.length_map]; omega) (by rw [List.length_map]; omega), bd_some, bytesI_ints]
    refine gd_of ?_
    have h4 := encI_len h1 (by show 6 ≤ _; omega)
    have h5 := encS_len (k := 450) (by omega) hs (by rw [List.length_map]; omega)
    rw [List.length_map] at h5
    have h6 : (bl b).length = 6 := rfl
    omega
  | k + 1, i, m + 1, hi, hm => by
    have hlt : i < b.Runs.length := by omega
    obtain ⟨h1, h2, h3⟩ := hb
    obtain ⟨g1, g2⟩ := h3 _ (List.getElem_mem hlt)
    rw [L_leaf_Block_0, show decide ((i : Int) < (b.Runs.length : Int)) = true from decide_eq_true (by omega), if_true?, get_of hlt]
    have e := row_loop N hN (L_leaf_Block_0 N b m) (i : Int) b.Gauge b.Level b.From b.To b.Known b.Runs ((b.Runs.take i).map fun r => encI (rl r)) b.Runs[i] (by omega) (by rw [List.length_map, List.length_take]; omega) g1 g2 b.Runs[i].Table.length 0 N (by omega) (by omega)
    have ih := bwr_loop N hN b ⟨h1, h2, h3⟩ k (i + 1) m (by omega) (by omega)
    rw [take_next _ _ hlt, List.map_append] at ih
    exact e.trans ih
theorem Block_eq (N : Nat) (hN : 100 ≤ N) {b : Block} (h : okK b) : F_leaf_Block N b = some (encK b) := by
  unfold F_leaf_Block
  have := h.2.1
  exact bwr_loop N hN b h b.Runs.length 0 N (by omega) (by omega)
theorem tbl_enc : ∀ (l acc : List Hold), tbl (l.flatMap hl) acc = acc ++ l
  | [], acc => by rw [List.append_nil]; rfl
  | h :: l, acc => by
    rw [List.flatMap_cons]
    show tbl (h.Stage :: h.Ticks :: l.flatMap hl) acc = _
    rw [tbl, tbl_enc l, List.append_assoc]; rfl
theorem runs_enc : ∀ (l acc : List Run), (∀ r ∈ l, r.Table.length ≤ 20 ∧ ∀ x ∈ rl r, I64 x) → runs (l.map fun r => encI (rl r)) acc = some (acc ++ l)
  | [], acc, _ => by rw [List.append_nil]; rfl
  | r :: l, acc, h => by
    obtain ⟨g1, g2⟩ := h r (by simp)
    have e := gints_enc g2 (by rw [rl_len]; omega) []
    rw [List.append_nil] at e
    rw [List.map_cons, runs, e, if_pos ⟨rfl, rfl, by simp only [rl_len]; omega, by simp only [rl_len]; omega⟩]
    have e2 : Run.mk ((rl r).getD 0 0) ((rl r).getD 1 0) (tbl ((rl r).drop 4) []) ((rl r).getD 2 0) ((rl r).getD 3 0) = r := by
      have : (rl r).drop 4 = r.Table.flatMap hl := rfl
      rw [this, tbl_enc]; rfl
    rw [e2, runs_enc l _ (fun x hx => h x (by simp [hx])), List.append_assoc]; rfl
theorem gbl_enc {b : Block} (h : okK b) : gbl (encK b) = (b, 0) := by
  obtain ⟨h1, h2, h3⟩ := h
  unfold gbl encK
  have hs : ∀ x ∈ b.Runs.map (fun r => encI (rl r)), x.length ≤ 1000000 := fun x hx => by
    obtain ⟨r, hr, rfl⟩ := List.mem_map.1 hx
    obtain ⟨g1, g2⟩ := h3 r hr
    have := encI_len g2 (by rw [rl_len]; omega)
    rw [rl_len] at this; omega
  rw [hd_true h1 (by show 6 ≤ _; omega) hs (by rw [List.length_map]; omega) 3 6 rfl rfl]
  simp only
  rw [runs_enc _ [] h3]
  rfl
theorem encK_len {b : Block} (h : okK b) : (encK b).length ≤ 6000 := by
  obtain ⟨h1, h2, h3⟩ := h
  have hs : ∀ x ∈ b.Runs.map (fun r => encI (rl r)), x.length ≤ 450 := fun x hx => by
    obtain ⟨r, hr, rfl⟩ := List.mem_map.1 hx
    obtain ⟨g1, g2⟩ := h3 r hr
    have := encI_len g2 (by rw [rl_len]; omega)
    rw [rl_len] at this; omega
  have h4 := encI_len h1 (by show 6 ≤ _; omega)
  have h5 := encS_len (k := 450) (by omega) hs (by rw [List.length_map]; omega)
  rw [List.length_map] at h5
  have h6 : (bl b).length = 6 := rfl
  unfold encK; rw [List.length_append]
  have : (450 + 10) * b.Runs.length ≤ 460 * 12 := Nat.mul_le_mul_left _ h2
  omega
theorem encV_len {v : Version} (h : okV v) (hp : v.Curve.Points.length ≤ 20) : (encV v).length ≤ 3000 := by
  obtain ⟨h1, h2, h3⟩ := h
  have h4 := encI_len h1 (by show 8 ≤ _; omega)
  have h5 := encS_len (k := 12) (by omega) (prt_ok h3) (by rw [prt_len]; omega)
  rw [prt_len] at h5
  have h6 : (vl v).length = 8 := rfl
  unfold encV; rw [List.length_append]
  omega
theorem encR_len {r : Reading} (h : okR r) : (encR r).length ≤ 100 := by
  have h1 := encI_len (okR_l h) (by simp only [List.length_cons, List.length_nil]; omega)
  simp only [List.length_cons, List.length_nil] at h1
  unfold encR; omega
/-- An item of one kind is none of another kind. -/
theorem grd_K {b : Block} (h : okK b) : (grd (encK b)).2 = 11 := by
  unfold grd encK
  rw [hd_none h.1 (by show 6 ≤ _; omega) _ 1 7 false (by show 6 ≠ 7; omega)]
theorem gbl_V {v : Version} (h : okV v) : (gbl (encV v)).2 = 11 := by
  unfold gbl encV
  rw [hd_none h.1 (by show 8 ≤ _; omega) _ 3 6 true (by show 8 ≠ 6; omega)]
theorem gvr_R {r : Reading} (h : okR r) : (gvr (encR r)).2 = 11 := by
  unfold gvr encR
  have := hd_none (okR_l h) (by simp only [List.length_cons, List.length_nil]; omega) [] 2 8 true (by show 7 ≠ 8; omega)
  rw [List.append_nil] at this
  rw [this]
end Go.Proofs.Tryd
namespace Go.Proofs.Tryd
open Go.Eng Go.Lib

theorem drop_eq {α : Type} {l m : List α} {i : Nat} (h1 : i < l.length) (h2 : i < m.length) : l.drop i = m.drop i ↔ l[i] = m[i] ∧ l.drop (i + 1) = m.drop (i + 1) := by
  rw [get_drop h1, get_drop h2, List.cons.injEq]
theorem pt_eq (x y : Point) : ((x.Stage == y.Stage) && ((x.Flow.Neg == y.Flow.Neg) && ((x.Flow.Num == y.Flow.Num) && (x.Flow.Den == y.Flow.Den)))) = true ↔ x = y := by
  obtain ⟨a, b, c, d⟩ := x
  obtain ⟨a', b', c', d'⟩ := y
  simp [Bool.and_eq_true, beq_iff_eq]
theorem curve_loop (N : Nat) (c e : Curve) (hl : c.Points.length = e.Points.length) (hb : c.Points.length ≤ 1000) : ∀ (k i m : Nat), i + k = c.Points.length → k < m → ∃ b, L_ref14_SameCurve_0 N c e m (i : Int) = some b ∧ (b = true ↔ c.Points.drop i = e.Points.drop i)
  | k, i, 0, _, h => by omega
  | 0, i, m + 1, hi, _ => by
    rw [L_ref14_SameCurve_0, show decide ((i : Int) < (c.Points.length : Int)) = false from decide_eq_false (by omega), if_false?, List.drop_of_length_le (by omega), List.drop_of_length_le (by omega)]
    exact ⟨true, rfl, by simp⟩
  | k + 1, i, m + 1, hi, hm => by
    have h1 : i < c.Points.length := by omega
    have h2 : i < e.Points.length := by omega
    rw [L_ref14_SameCurve_0, show decide ((i : Int) < (c.Points.length : Int)) = true from decide_eq_true (by omega), if_true?, get_of h1, get_of h2]
    by_cases hq : c.Points[i] = e.Points[i]
    · rw [(pt_eq _ _).2 hq, if_true?, ck_of (by omega) (by omega)]
      obtain ⟨b, g1, g2⟩ := curve_loop N c e hl hb k (i + 1) m (by omega) (by omega)
      exact ⟨b, g1, g2.trans ⟨fun h => (drop_eq h1 h2).2 ⟨hq, h⟩, fun h => ((drop_eq h1 h2).1 h).2⟩⟩
    · have : ((c.Points[i].Stage == e.Points[i].Stage) && ((c.Points[i].Flow.Neg == e.Points[i].Flow.Neg) && ((c.Points[i].Flow.Num == e.Points[i].Flow.Num) && (c.Points[i].Flow.Den == e.Points[i].Flow.Den)))) = false := Bool.eq_false_iff.2 fun h => hq ((pt_eq _ _).1 h)
      rw [this, if_false?]
      exact ⟨false, rfl, by simp only [Bool.false_eq_true, false_iff]; exact fun h => hq ((drop_eq h1 h2).1 h).1⟩
theorem same_curve (N : Nat) (c e : Curve) (hN : c.Points.length < N) (hb : c.Points.length ≤ 1000) : ∃ b, F_ref14_SameCurve N c e = some b ∧ (b = true ↔ c = e) := by
  unfold F_ref14_SameCurve
  by_cases hl : c.Points.length = e.Points.length
  · rw [ne_f (show (c.Points.length : Int) = (e.Points.length : Int) by omega), if_false?]
    obtain ⟨b, g1, g2⟩ := curve_loop N c e hl hb c.Points.length 0 N (by omega) hN
    refine ⟨b, g1, g2.trans ?_⟩
    rw [List.drop_zero, List.drop_zero]
    obtain ⟨c⟩ := c; obtain ⟨e⟩ := e
    simp
  · rw [ne_t (show (c.Points.length : Int) ≠ (e.Points.length : Int) by omega), if_true?]
    exact ⟨false, rfl, by simp only [Bool.false_eq_true, false_iff]; exact fun h => hl (by rw [h])⟩
theorem same_V (N : Nat) (v w : Version) (hN : v.Curve.Points.length < N) (hb : v.Curve.Points.length ≤ 1000) : ∃ b, F_ref14_Same N v w = some b ∧ (b = true ↔ v = w) := by
  unfold F_ref14_Same
  obtain ⟨b, g1, g2⟩ := same_curve N v.Curve w.Curve hN hb
  rw [g1, bd_some]
  obtain ⟨a1, a2, a3, a4, a5, a6, a7, a8⟩ := v
  obtain ⟨b1, b2, b3, b4, b5, b6, b7, b8⟩ := w
  simp only at g2 ⊢
  rw [Version.mk.injEq]
  cases b with
  | false => exact ⟨false, rfl, by simp only [Bool.false_eq_true, false_iff] at g2 ⊢; exact fun h => g2 h.2.2.2.2.2.2.2⟩
  | true =>
    have h1 := g2.1 rfl
    rw [if_true?]
    by_cases h2 : a1 = b1
    · rw [eq_t h2, if_true?]
      by_cases h3 : a2 = b2
      · rw [eq_t h3, if_true?]
        by_cases h4 : a3 = b3
        · rw [eq_t h4, if_true?]
          by_cases h5 : a4 = b4
          · rw [eq_t h5, if_true?]
            by_cases h6 : a5 = b5
            · rw [eq_t h6, if_true?]
              by_cases h7 : a6 = b6
              · rw [eq_t h7, if_true?]
                exact ⟨_, rfl, by rw [beq_iff_eq]; exact ⟨fun h => ⟨h2, h3, h4, h5, h6, h7, h, h1⟩, fun h => h.2.2.2.2.2.2.1⟩⟩
              · rw [eq_f h7, if_false?]; exact ⟨false, rfl, by simp [h7]⟩
            · rw [eq_f h6, if_false?]; exact ⟨false, rfl, by simp [h6]⟩
          · rw [eq_f h5, if_false?]; exact ⟨false, rfl, by simp [h5]⟩
        · rw [eq_f h4, if_false?]; exact ⟨false, rfl, by simp [h4]⟩
      · rw [eq_f h3, if_false?]; exact ⟨false, rfl, by simp [h3]⟩
    · rw [eq_f h2, if_false?]; exact ⟨false, rfl, by simp [h2]⟩
theorem hold_eq (x y : Hold) : ((x.Stage == y.Stage) && (x.Ticks == y.Ticks)) = true ↔ x = y := by
  obtain ⟨a, b⟩ := x
  obtain ⟨a', b'⟩ := y
  simp [Bool.and_eq_true, beq_iff_eq]
theorem hold_loop (N : Nat) (c e : List Hold) (hl : c.length = e.length) (hb : c.length ≤ 1000) : ∀ (k i m : Nat), i + k = c.length → k < m → ∃ b, L_slices_Equal_Hold_Hold_0 N c e m (i : Int) = some b ∧ (b = true ↔ c.drop i = e.drop i)
  | k, i, 0, _, h => by omega
  | 0, i, m + 1, hi, _ => by
    rw [L_slices_Equal_Hold_Hold_0, show decide ((i : Int) < (c.length : Int)) = false from decide_eq_false (by omega), if_false?, List.drop_of_length_le (by omega), List.drop_of_length_le (by omega)]
    exact ⟨true, rfl, by simp⟩
  | k + 1, i, m + 1, hi, hm => by
    have h1 : i < c.length := by omega
    have h2 : i < e.length := by omega
    rw [L_slices_Equal_Hold_Hold_0, show decide ((i : Int) < (c.length : Int)) = true from decide_eq_true (by omega), if_true?, get_of h1, get_of h2]
    by_cases hq : c[i] = e[i]
    · rw [(hold_eq _ _).2 hq, if_true?, ck_of (by omega) (by omega)]
      obtain ⟨b, g1, g2⟩ := hold_loop N c e hl hb k (i + 1) m (by omega) (by omega)
      exact ⟨b, g1, g2.trans ⟨fun h => (drop_eq h1 h2).2 ⟨hq, h⟩, fun h => ((drop_eq h1 h2).1 h).2⟩⟩
    · have : ((c[i].Stage == e[i].Stage) && (c[i].Ticks == e[i].Ticks)) = false := Bool.eq_false_iff.2 fun h => hq ((hold_eq _ _).1 h)
      rw [this, if_false?]
      exact ⟨false, rfl, by simp only [Bool.false_eq_true, false_iff]; exact fun h => hq ((drop_eq h1 h2).1 h).1⟩
theorem same_holds (N : Nat) (c e : List Hold) (hN : c.length < N) (hb : c.length ≤ 1000) : ∃ b, F_slices_Equal_Hold_Hold N c e = some b ∧ (b = true ↔ c = e) := by
  unfold F_slices_Equal_Hold_Hold
  by_cases hl : c.length = e.length
  · rw [ne_f (show (c.length : Int) = (e.length : Int) by omega), if_false?]
    obtain ⟨b, g1, g2⟩ := hold_loop N c e hl hb c.length 0 N (by omega) hN
    refine ⟨b, g1, g2.trans ?_⟩
    rw [List.drop_zero, List.drop_zero]
  · rw [ne_t (show (c.length : Int) ≠ (e.length : Int) by omega), if_true?]
    exact ⟨false, rfl, by simp only [Bool.false_eq_true, false_iff]; exact fun h => hl (by rw [h])⟩
theorem same_1 (N : Nat) (x y : Run) (hN : x.Table.length < N) (hb : x.Table.length ≤ 1000) : ∃ b, F_law23_same_1 N x y = some b ∧ (b = true ↔ x = y) := by
  unfold F_law23_same_1
  obtain ⟨b, g1, g2⟩ := same_holds N x.Table y.Table hN hb
  obtain ⟨a1, a2, a3, a4, a5⟩ := x
  obtain ⟨b1, b2, b3, b4, b5⟩ := y
  simp only at g1 g2 ⊢
  rw [Run.mk.injEq, g1]
  by_cases h1 : a1 = b1
  · rw [eq_t h1, if_true?]
    by_cases h2 : a2 = b2
    · rw [eq_t h2, if_true?]
      by_cases h3 : a4 = b4
      · rw [eq_t h3, if_true?]
        by_cases h4 : a5 = b5
        · rw [eq_t h4, if_true?, bd_some]
          exact ⟨b, rfl, g2.trans ⟨fun h => ⟨h1, h2, h, h3, h4⟩, fun h => h.2.2.1⟩⟩
        · rw [eq_f h4, if_false?]; exact ⟨false, rfl, by simp [h4]⟩
      · rw [eq_f h3, if_false?]; exact ⟨false, rfl, by simp [h3]⟩
    · rw [eq_f h2, if_false?]; exact ⟨false, rfl, by simp [h2]⟩
  · rw [eq_f h1, if_false?]; exact ⟨false, rfl, by simp [h1]⟩
theorem run_cmp (N : Nat) (c e : List Run) (hl : c.length = e.length) (hb : c.length ≤ 1000) (ht : ∀ x ∈ c, x.Table.length < N ∧ x.Table.length ≤ 1000) : ∀ (k i m : Nat), i + k = c.length → k < m → ∃ b, L_slices_EqualFunc_Run_Run_0 N c e m (i : Int) = some b ∧ (b = true ↔ c.drop i = e.drop i)
  | k, i, 0, _, h => by omega
  | 0, i, m + 1, hi, _ => by
    rw [L_slices_EqualFunc_Run_Run_0, show decide ((i : Int) < (c.length : Int)) = false from decide_eq_false (by omega), if_false?, List.drop_of_length_le (by omega), List.drop_of_length_le (by omega)]
    exact ⟨true, rfl, by simp⟩
  | k + 1, i, m + 1, hi, hm => by
    have h1 : i < c.length := by omega
    have h2 : i < e.length := by omega
    obtain ⟨t1, t2⟩ := ht _ (List.getElem_mem h1)
    obtain ⟨b, g1, g2⟩ := same_1 N c[i] e[i] t1 t2
    rw [L_slices_EqualFunc_Run_Run_0, show decide ((i : Int) < (c.length : Int)) = true from decide_eq_true (by omega), if_true?, get_of h1, get_of h2, g1, bd_some]
    cases b with
    | true =>
      have hq := g2.1 rfl
      rw [if_true?, ck_of (by omega) (by omega)]
      obtain ⟨b, g1, g2⟩ := run_cmp N c e hl hb ht k (i + 1) m (by omega) (by omega)
      exact ⟨b, g1, g2.trans ⟨fun h => (drop_eq h1 h2).2 ⟨hq, h⟩, fun h => ((drop_eq h1 h2).1 h).2⟩⟩
    | false =>
      rw [if_false?]
      exact ⟨false, rfl, by simp only [Bool.false_eq_true, false_iff] at g2 ⊢; exact fun h => g2 ((drop_eq h1 h2).1 h).1⟩
theorem same_K (N : Nat) (b c : Block) (hN : b.Runs.length < N) (hb : b.Runs.length ≤ 1000) (ht : ∀ x ∈ b.Runs, x.Table.length < N ∧ x.Table.length ≤ 1000) : ∃ r, F_law23_same N b c = some r ∧ (r = true ↔ b = c) := by
  unfold F_law23_same F_slices_EqualFunc_Run_Run
  obtain ⟨a1, a2, a3, a4, a5, a6⟩ := b
  obtain ⟨b1, b2, b3, b4, b5, b6⟩ := c
  simp only at hN hb ht ⊢
  rw [Block.mk.injEq]
  by_cases h1 : a1 = b1
  · rw [ne_f h1, if_false?]
    by_cases h2 : a2 = b2
    · rw [ne_f h2, if_false?]
      by_cases h3 : a3 = b3
      · rw [ne_f h3, if_false?]
        by_cases h4 : a4 = b4
        · rw [ne_f h4, if_false?]
          by_cases h5 : a5 = b5
          · rw [ne_f h5, if_false?]
            by_cases hl : a6.length = b6.length
            · rw [ne_f (show (a6.length : Int) = (b6.length : Int) by omega), if_false?]
              obtain ⟨r, g1, g2⟩ := run_cmp N a6 b6 hl hb ht a6.length 0 N (by omega) hN
              rw [show (((0 : Nat) : Int)) = 0 from rfl] at g1
              rw [g1, bd_some]
              rw [List.drop_zero, List.drop_zero] at g2
              exact ⟨r, rfl, g2.trans ⟨fun h => ⟨h1, h2, h3, h4, h5, h⟩, fun h => h.2.2.2.2.2⟩⟩
            · rw [ne_t (show (a6.length : Int) ≠ (b6.length : Int) by omega), if_true?, bd_some]
              exact ⟨false, rfl, by simp only [Bool.false_eq_true, false_iff]; exact fun h => hl (by rw [h.2.2.2.2.2])⟩
          · rw [ne_t h5, if_true?]; exact ⟨false, rfl, by simp [h5]⟩
        · rw [ne_t h4, if_true?]; exact ⟨false, rfl, by simp [h4]⟩
      · rw [ne_t h3, if_true?]; exact ⟨false, rfl, by simp [h3]⟩
    · rw [ne_t h2, if_true?]; exact ⟨false, rfl, by simp [h2]⟩
  · rw [ne_t h1, if_true?]; exact ⟨false, rfl, by simp [h1]⟩
end Go.Proofs.Tryd
namespace Go.Proofs.Tryd
open Go.Eng Go.Lib

theorem few_loop (N : Nat) (c : Curve) (hb : c.Points.length ≤ 1000) : ∀ (k i m : Nat), i + k = c.Points.length → k < m → ∃ b, L_ref14_FewPoints_0 N c m (i : Int) = some b ∧ (b = true → ∀ p ∈ c.Points.drop i, p.Flow.Num.length ≤ 12 ∧ p.Flow.Den.length ≤ 12)
  | k, i, 0, _, h => by omega
  | 0, i, m + 1, hi, _ => by
    rw [L_ref14_FewPoints_0, show decide ((i : Int) < (c.Points.length : Int)) = false from decide_eq_false (by omega), if_false?, List.drop_of_length_le (by omega)]
    exact ⟨true, rfl, fun _ p hp => by cases hp⟩
  | k + 1, i, m + 1, hi, hm => by
    have h1 : i < c.Points.length := by omega
    rw [L_ref14_FewPoints_0, show decide ((i : Int) < (c.Points.length : Int)) = true from decide_eq_true (by omega), if_true?, get_of h1, get_drop h1]
    by_cases ha : c.Points[i].Flow.Num.length ≤ 12
    · rw [show decide ((c.Points[i].Flow.Num.length : Int) > 12) = false from decide_eq_false (by omega), if_false?]
      by_cases hd : c.Points[i].Flow.Den.length ≤ 12
      · rw [show decide ((c.Points[i].Flow.Den.length : Int) > 12) = false from decide_eq_false (by omega), if_false?, ck_of (by omega) (by omega)]
        obtain ⟨b, g1, g2⟩ := few_loop N c hb k (i + 1) m (by omega) (by omega)
        refine ⟨b, g1, fun h p hp => ?_⟩
        rcases List.mem_cons.1 hp with rfl | hp
        · exact ⟨ha, hd⟩
        · exact g2 h p hp
      · rw [show decide ((c.Points[i].Flow.Den.length : Int) > 12) = true from decide_eq_true (by omega), if_true?]
        exact ⟨false, rfl, fun h => by cases h⟩
    · rw [show decide ((c.Points[i].Flow.Num.length : Int) > 12) = true from decide_eq_true (by omega), if_true?]
      exact ⟨false, rfl, fun h => by cases h⟩
theorem fewb_loop (N : Nat) (c : Block) (hb : c.Runs.length ≤ 1000) : ∀ (k i m : Nat), i + k = c.Runs.length → k < m → ∃ b, L_ref23_FewBlock_0 N c m (i : Int) = some b ∧ (b = true → ∀ p ∈ c.Runs.drop i, p.Table.length ≤ 20)
  | k, i, 0, _, h => by omega
  | 0, i, m + 1, hi, _ => by
    rw [L_ref23_FewBlock_0, show decide ((i : Int) < (c.Runs.length : Int)) = false from decide_eq_false (by omega), if_false?, List.drop_of_length_le (by omega)]
    exact ⟨true, rfl, fun _ p hp => by cases hp⟩
  | k + 1, i, m + 1, hi, hm => by
    have h1 : i < c.Runs.length := by omega
    rw [L_ref23_FewBlock_0, show decide ((i : Int) < (c.Runs.length : Int)) = true from decide_eq_true (by omega), if_true?, get_of h1, get_drop h1]
    by_cases ha : c.Runs[i].Table.length ≤ 20
    · rw [show decide ((c.Runs[i].Table.length : Int) > 20) = false from decide_eq_false (by omega), if_false?, ck_of (by omega) (by omega)]
      obtain ⟨b, g1, g2⟩ := fewb_loop N c hb k (i + 1) m (by omega) (by omega)
      refine ⟨b, g1, fun h p hp => ?_⟩
      rcases List.mem_cons.1 hp with rfl | hp
      · exact ha
      · exact g2 h p hp
    · rw [show decide ((c.Runs[i].Table.length : Int) > 20) = true from decide_eq_true (by omega), if_true?]
      exact ⟨false, rfl, fun h => by cases h⟩
theorem small_eq (N : Nat) (hN : 100 ≤ N) (v : Version) (b : Block) : ∃ x, F_law23_small N v b = some x ∧ (x = true → v.Curve.Points.length ≤ 20 ∧ (∀ p ∈ v.Curve.Points, p.Flow.Num.length ≤ 12 ∧ p.Flow.Den.length ≤ 12) ∧ b.Runs.length ≤ 12 ∧ ∀ r ∈ b.Runs, r.Table.length ≤ 20) := by
  unfold F_law23_small F_ref14_FewPoints F_ref23_FewBlock
  by_cases h1 : v.Curve.Points.length ≤ 20
  · rw [show decide ((v.Curve.Points.length : Int) > 20) = false from decide_eq_false (by omega), if_false?]
    obtain ⟨x, g1, g2⟩ := few_loop N v.Curve (by omega) v.Curve.Points.length 0 N (by omega) (by omega)
    rw [show (((0 : Nat) : Int)) = 0 from rfl] at g1
    rw [g1, bd_some]
    cases x with
    | false => exact ⟨false, rfl, fun h => by cases h⟩
    | true =>
      rw [if_true?]
      by_cases h2 : b.Runs.length ≤ 12
      · rw [show decide ((b.Runs.length : Int) > 12) = false from decide_eq_false (by omega), if_false?]
        obtain ⟨y, q1, q2⟩ := fewb_loop N b (by omega) b.Runs.length 0 N (by omega) (by omega)
        rw [show (((0 : Nat) : Int)) = 0 from rfl] at q1
        rw [q1, bd_some]
        rw [List.drop_zero] at g2 q2
        exact ⟨y, rfl, fun h => ⟨h1, g2 rfl, h2, q2 h⟩⟩
      · rw [show decide ((b.Runs.length : Int) > 12) = true from decide_eq_true (by omega), if_true?, bd_some]
        exact ⟨false, rfl, fun h => by cases h⟩
  · rw [show decide ((v.Curve.Points.length : Int) > 20) = true from decide_eq_true (by omega), if_true?, bd_some]
    exact ⟨false, rfl, fun h => by cases h⟩

/-- The numbers of an item of each kind are of Go's int. -/
def ok3 (t : WThree) : Prop := okR t.R ∧ (∀ x ∈ vl t.V, I64 x) ∧ (∀ p ∈ t.V.Curve.Points, I64 p.Stage) ∧ (∀ x ∈ bl t.B, I64 x) ∧ ∀ r ∈ t.B.Runs, ∀ x ∈ rl r, I64 x
theorem R_eq (x y : Reading) : ((x.Gauge == y.Gauge) && ((x.Seq == y.Seq) && ((x.From == y.From) && ((x.To == y.To) && ((x.Stage == y.Stage) && (x.Known == y.Known)))))) = true ↔ x = y := by
  obtain ⟨a, b, c, d, e, f⟩ := x
  obtain ⟨a', b', c', d', e', f'⟩ := y
  simp [Bool.and_eq_true, beq_iff_eq]
theorem both {s t : Str} {b : Bool} {P : Prop} (h1 : s = t ↔ P) (h2 : b = true ↔ P) : ((s == t) == b) = true := by
  rw [beq_iff_eq]
  cases b with
  | true => rw [beq_iff_eq]; exact h1.2 (h2.1 rfl)
  | false => rw [beq_eq_false_iff_ne]; exact fun h => by have := h2.2 (h1.1 h); cases this
theorem law11_eq (N : Nat) (hN : 7000 ≤ N) (hs : F_law23_sanity N = some true) (a b : WThree) (ha : ok3 a) (hb : ok3 b) : F_law23_LeavesComeBack N a b = some true := by
  unfold F_law23_LeavesComeBack
  rw [hs, bd_some, if_true?]
  obtain ⟨x, g1, g2⟩ := small_eq N (by omega) a.V a.B
  obtain ⟨y, q1, q2⟩ := small_eq N (by omega) b.V b.B
  rw [g1, bd_some]
  cases x with
  | false => rw [if_false?]
  | true =>
    rw [if_true?, q1, bd_some]
    cases y with
    | false => rw [if_false?]
    | true =>
      rw [if_true?]
      obtain ⟨a1, a2, a3, a4⟩ := g2 rfl
      obtain ⟨b1, b2, b3, b4⟩ := q2 rfl
      obtain ⟨r1, r2, r3, r4, r5⟩ := ha
      obtain ⟨s1, s2, s3, s4, s5⟩ := hb
      have va : okV a.V := ⟨r2, by omega, fun p hp => ⟨r3 p hp, a2 p hp⟩⟩
      have vb : okV b.V := ⟨s2, by omega, fun p hp => ⟨s3 p hp, b2 p hp⟩⟩
      have ka : okK a.B := ⟨r4, a3, fun r hr => ⟨a4 r hr, r5 r hr⟩⟩
      have kb : okK b.B := ⟨s4, b3, fun r hr => ⟨b4 r hr, s5 r hr⟩⟩
      have lR := encR_len r1
      have lV := encV_len va a1
      have lK := encK_len ka
      have eR := grd_enc r1
      have eV := gvr_enc va
      have eK := gbl_enc ka
      have iR : encR a.R = encR b.R ↔ a.R = b.R := ⟨fun h => by have := grd_enc s1; rw [← h, eR] at this; exact congrArg Prod.fst this, fun h => by rw [h]⟩
      have iV : encV a.V = encV b.V ↔ a.V = b.V := ⟨fun h => by have := gvr_enc vb; rw [← h, eV] at this; exact congrArg Prod.fst this, fun h => by rw [h]⟩
      have iK : encK a.B = encK b.B ↔ a.B = b.B := ⟨fun h => by have := gbl_enc kb; rw [← h, eK] at this; exact congrArg Prod.fst this, fun h => by rw [h]⟩
      rw [Reading_eq N (by omega) r1, bd_some, GetReading_eq N _ (by omega) (by omega) (by omega), eR, bd_some, Version_eq N (by omega) va (by omega), bd_some, GetVersion_eq N _ (by omega) (by omega) (by omega), eV, bd_some, Block_eq N (by omega) ka, bd_some, GetBlock_eq N _ (by omega) (by omega) (by omega), eK, bd_some]
      rw [ne_f (show (a.R, (0 : Int)).2 = 0 from rfl), if_false?, if_false?, if_false?, (R_eq _ _).2 rfl, if_true?]
      obtain ⟨z1, p1, p2⟩ := same_V N a.V a.V (by omega) (by omega)
      rw [p1, bd_some, p2.2 rfl, if_true?]
      obtain ⟨z2, p3, p4⟩ := same_K N a.B a.B (by omega) (by omega) (fun x hx => by have := a4 x hx; omega)
      rw [p3, bd_some, p4.2 rfl, if_true?, bd_some, GetReading_eq N _ (by omega) (by omega) (by omega), bd_some, bd_some, GetBlock_eq N _ (by omega) (by omega) (by omega), bd_some, bd_some, GetVersion_eq N _ (by omega) (by omega) (by omega), bd_some, eq_t (grd_K ka), if_true?, eq_t (gbl_V va), if_true?, eq_t (gvr_R r1), if_true?, bd_some, Reading_eq N (by omega) s1, bd_some]
      rw [both iR (R_eq _ _), if_true?, bd_some, Version_eq N (by omega) vb (by omega), bd_some]
      obtain ⟨z3, p5, p6⟩ := same_V N a.V b.V (by omega) (by omega)
      rw [p5, bd_some, both iV p6, if_true?, bd_some, Block_eq N (by omega) kb, bd_some]
      obtain ⟨z4, p7, p8⟩ := same_K N a.B b.B (by omega) (by omega) (fun x hx => by have := a4 x hx; omega)
      rw [p7, bd_some, both iK p8]
end Go.Proofs.Tryd
namespace Go.Proofs.Tryd
open Go.Eng Go.Lib

def KReading (x : Reading) : Prop := (IntKind.min .i64 ≤ x.Gauge ∧ x.Gauge ≤ IntKind.max .i64) ∧ (IntKind.min .i64 ≤ x.Seq ∧ x.Seq ≤ IntKind.max .i64) ∧ (IntKind.min .i64 ≤ x.From ∧ x.From ≤ IntKind.max .i64) ∧ (IntKind.min .i64 ≤ x.To ∧ x.To ≤ IntKind.max .i64) ∧ (IntKind.min .i64 ≤ x.Stage ∧ x.Stage ≤ IntKind.max .i64) ∧ (IntKind.min .i64 ≤ x.Known ∧ x.Known ≤ IntKind.max .i64)
def KRat (x : Rat) : Prop := (True) ∧ (x.Num.length ≤ 9223372036854775807) ∧ (x.Den.length ≤ 9223372036854775807)
def KPoint (x : Point) : Prop := (IntKind.min .i64 ≤ x.Stage ∧ x.Stage ≤ IntKind.max .i64) ∧ (KRat x.Flow)
def KCurve (x : Curve) : Prop := (x.Points.length ≤ 9223372036854775807 ∧ ∀ y ∈ x.Points, KPoint y)
def KVersion (x : Version) : Prop := (IntKind.min .i64 ≤ x.Kind ∧ x.Kind ≤ IntKind.max .i64) ∧ (IntKind.min .i64 ≤ x.Gauge ∧ x.Gauge ≤ IntKind.max .i64) ∧ (IntKind.min .i64 ≤ x.Seq ∧ x.Seq ≤ IntKind.max .i64) ∧ (IntKind.min .i64 ≤ x.Known ∧ x.Known ≤ IntKind.max .i64) ∧ (IntKind.min .i64 ≤ x.From ∧ x.From ≤ IntKind.max .i64) ∧ (IntKind.min .i64 ≤ x.To ∧ x.To ≤ IntKind.max .i64) ∧ (IntKind.min .i64 ≤ x.Shift ∧ x.Shift ≤ IntKind.max .i64) ∧ (KCurve x.Curve)
def KHold (x : Hold) : Prop := (IntKind.min .i64 ≤ x.Stage ∧ x.Stage ≤ IntKind.max .i64) ∧ (IntKind.min .i64 ≤ x.Ticks ∧ x.Ticks ≤ IntKind.max .i64)
def KRun (x : Run) : Prop := (IntKind.min .i64 ≤ x.From ∧ x.From ≤ IntKind.max .i64) ∧ (IntKind.min .i64 ≤ x.To ∧ x.To ≤ IntKind.max .i64) ∧ (x.Table.length ≤ 9223372036854775807 ∧ ∀ y ∈ x.Table, KHold y) ∧ (IntKind.min .i64 ≤ x.Lo ∧ x.Lo ≤ IntKind.max .i64) ∧ (IntKind.min .i64 ≤ x.Hi ∧ x.Hi ≤ IntKind.max .i64)
def KBlock (x : Block) : Prop := (IntKind.min .i64 ≤ x.Gauge ∧ x.Gauge ≤ IntKind.max .i64) ∧ (IntKind.min .i64 ≤ x.Level ∧ x.Level ≤ IntKind.max .i64) ∧ (IntKind.min .i64 ≤ x.From ∧ x.From ≤ IntKind.max .i64) ∧ (IntKind.min .i64 ≤ x.To ∧ x.To ≤ IntKind.max .i64) ∧ (IntKind.min .i64 ≤ x.Known ∧ x.Known ≤ IntKind.max .i64) ∧ (x.Runs.length ≤ 9223372036854775807 ∧ ∀ y ∈ x.Runs, KRun y)
def KWThree (x : WThree) : Prop := (KReading x.R) ∧ (KVersion x.V) ∧ (KBlock x.B)
theorem K64 {n : Int} (h : IntKind.min .i64 ≤ n ∧ n ≤ IntKind.max .i64) : I64 n := by
  have e1 : IntKind.min .i64 = -9223372036854775808 := by decide
  have e2 : IntKind.max .i64 = 9223372036854775807 := by decide
  rw [e1, e2] at h; exact h
theorem K3 {t : WThree} (h : KWThree t) : ok3 t := by
  obtain ⟨⟨a1, a2, a3, a4, a5, a6⟩, ⟨b1, b2, b3, b4, b5, b6, b7, _, b8⟩, ⟨c1, c2, c3, c4, c5, _, c6⟩⟩ := h
  refine ⟨⟨K64 a1, K64 a2, K64 a3, K64 a4, K64 a5, K64 a6⟩, fun x hx => ?_, fun p hp => K64 (b8 p hp).1, fun x hx => ?_, fun r hr x hx => ?_⟩
  · unfold vl at hx
    simp only [List.mem_cons, List.not_mem_nil, or_false] at hx
    rcases hx with rfl | rfl | rfl | rfl | rfl | rfl | rfl | rfl
    · exact I64_lit.2.2.1
    all_goals (apply K64; assumption)
  · unfold bl at hx
    simp only [List.mem_cons, List.not_mem_nil, or_false] at hx
    rcases hx with rfl | rfl | rfl | rfl | rfl | rfl
    · exact I64_lit.2.2.2
    all_goals (apply K64; assumption)
  · obtain ⟨d1, d2, ⟨_, d3⟩, d4, d5⟩ := c6 r hr
    unfold rl at hx
    rcases List.mem_append.1 hx with hx | hx
    · simp only [List.mem_cons, List.not_mem_nil, or_false] at hx
      rcases hx with rfl | rfl | rfl | rfl
      all_goals (apply K64; assumption)
    · obtain ⟨y, hy, hx⟩ := List.mem_flatMap.1 hx
      obtain ⟨e1, e2⟩ := d3 y hy
      unfold hl at hx
      simp only [List.mem_cons, List.not_mem_nil, or_false] at hx
      rcases hx with rfl | rfl
      all_goals (apply K64; assumption)
theorem sanity_7000 : F_law23_sanity 7000 = some true := by kernel_rfl
theorem law11_all (N : Nat) (hN : N = 7000) (a b : WThree) (ha : KWThree a) (hb : KWThree b) : F_law23_LeavesComeBack N a b = some true := by
  subst hN
  exact law11_eq 7000 (by omega) sanity_7000 a b (K3 ha) (K3 hb)
end Go.Proofs.Tryd
namespace Go.Proofs.Tryd
open Go.Eng Go.RowKit Go.ChangeShapes Go.WideShapes Go.ChangeAt
def Reading.ok (x : Reading) : Prop := (IntKind.min .i64 ≤ x.Gauge ∧ x.Gauge ≤ IntKind.max .i64) ∧ (IntKind.min .i64 ≤ x.Seq ∧ x.Seq ≤ IntKind.max .i64) ∧ (IntKind.min .i64 ≤ x.From ∧ x.From ≤ IntKind.max .i64) ∧ (IntKind.min .i64 ≤ x.To ∧ x.To ≤ IntKind.max .i64) ∧ (IntKind.min .i64 ≤ x.Stage ∧ x.Stage ≤ IntKind.max .i64) ∧ (IntKind.min .i64 ≤ x.Known ∧ x.Known ≤ IntKind.max .i64)
theorem Reading.cv : Cv prog 99 Reading.row 6 Reading.ok :=
  Cv.struct underlying99 (by kernel_rfl) (fun _ => rfl) fun G cs hl h => by
    obtain ⟨a0, h1, r0⟩ := h 0 _ rfl (Cv.int underlying3 (by kernel_rfl))
    obtain ⟨a1, h2, r1⟩ := h 1 _ rfl (Cv.int underlying3 (by kernel_rfl))
    obtain ⟨a2, h3, r2⟩ := h 2 _ rfl (Cv.int underlying3 (by kernel_rfl))
    obtain ⟨a3, h4, r3⟩ := h 3 _ rfl (Cv.int underlying3 (by kernel_rfl))
    obtain ⟨a4, h5, r4⟩ := h 4 _ rfl (Cv.int underlying3 (by kernel_rfl))
    obtain ⟨a5, h6, r5⟩ := h 5 _ rfl (Cv.int underlying3 (by kernel_rfl))
    exact ⟨⟨a0, a1, a2, a3, a4, a5⟩, ⟨h1, h2, h3, h4, h5, h6⟩, CRep.cons (o := 0) r0 (CRep.cons r1 (CRep.cons r2 (CRep.cons r3 (CRep.cons r4 (CRep.cons r5 (CRep.fin hl))))))⟩
def Rat.ok (x : Rat) : Prop := (True) ∧ (x.Num.length ≤ 9223372036854775807) ∧ (x.Den.length ≤ 9223372036854775807)
theorem Rat.cv : Cv prog 184 Rat.row 3 Rat.ok :=
  Cv.struct underlying184 (by kernel_rfl) (fun _ => rfl) fun G cs hl h => by
    obtain ⟨a0, h1, r0⟩ := h 0 _ rfl (Cv.bool underlying4 (by kernel_rfl))
    obtain ⟨a1, h2, r1⟩ := h 1 _ rfl (Cv.string underlying9 (by kernel_rfl))
    obtain ⟨a2, h3, r2⟩ := h 2 _ rfl (Cv.string underlying9 (by kernel_rfl))
    exact ⟨⟨a0, a1, a2⟩, ⟨h1, h2, h3⟩, CRep.cons (o := 0) r0 (CRep.cons r1 (CRep.cons r2 (CRep.fin hl)))⟩
def Point.ok (x : Point) : Prop := (IntKind.min .i64 ≤ x.Stage ∧ x.Stage ≤ IntKind.max .i64) ∧ (Rat.ok x.Flow)
theorem Point.cv : Cv prog 186 Point.row 4 Point.ok :=
  Cv.struct underlying186 (by kernel_rfl) (fun _ => rfl) fun G cs hl h => by
    obtain ⟨a0, h1, r0⟩ := h 0 _ rfl (Cv.int underlying3 (by kernel_rfl))
    obtain ⟨a1, h2, r1⟩ := h 1 _ rfl Rat.cv
    exact ⟨⟨a0, a1⟩, ⟨h1, h2⟩, CRep.cons (o := 0) r0 (CRep.cons r1 (CRep.fin hl))⟩
def Curve.ok (x : Curve) : Prop := (x.Points.length ≤ 9223372036854775807 ∧ ∀ y ∈ x.Points, Point.ok y)
theorem Curve.cv : Cv prog 102 Curve.row 1 Curve.ok :=
  Cv.struct underlying102 (by kernel_rfl) (fun _ => rfl) fun G cs hl h => by
    obtain ⟨a0, h1, r0⟩ := h 0 _ rfl (Cv.slice Point.cv (by decide) underlying100 (by kernel_rfl))
    exact ⟨⟨a0⟩, h1, CRep.cons (o := 0) r0 (CRep.fin hl)⟩
def Version.ok (x : Version) : Prop := (IntKind.min .i64 ≤ x.Kind ∧ x.Kind ≤ IntKind.max .i64) ∧ (IntKind.min .i64 ≤ x.Gauge ∧ x.Gauge ≤ IntKind.max .i64) ∧ (IntKind.min .i64 ≤ x.Seq ∧ x.Seq ≤ IntKind.max .i64) ∧ (IntKind.min .i64 ≤ x.Known ∧ x.Known ≤ IntKind.max .i64) ∧ (IntKind.min .i64 ≤ x.From ∧ x.From ≤ IntKind.max .i64) ∧ (IntKind.min .i64 ≤ x.To ∧ x.To ≤ IntKind.max .i64) ∧ (IntKind.min .i64 ≤ x.Shift ∧ x.Shift ≤ IntKind.max .i64) ∧ (Curve.ok x.Curve)
theorem Version.cv : Cv prog 104 Version.row 8 Version.ok :=
  Cv.struct underlying104 (by kernel_rfl) (fun _ => rfl) fun G cs hl h => by
    obtain ⟨a0, h1, r0⟩ := h 0 _ rfl (Cv.int underlying3 (by kernel_rfl))
    obtain ⟨a1, h2, r1⟩ := h 1 _ rfl (Cv.int underlying3 (by kernel_rfl))
    obtain ⟨a2, h3, r2⟩ := h 2 _ rfl (Cv.int underlying3 (by kernel_rfl))
    obtain ⟨a3, h4, r3⟩ := h 3 _ rfl (Cv.int underlying3 (by kernel_rfl))
    obtain ⟨a4, h5, r4⟩ := h 4 _ rfl (Cv.int underlying3 (by kernel_rfl))
    obtain ⟨a5, h6, r5⟩ := h 5 _ rfl (Cv.int underlying3 (by kernel_rfl))
    obtain ⟨a6, h7, r6⟩ := h 6 _ rfl (Cv.int underlying3 (by kernel_rfl))
    obtain ⟨a7, h8, r7⟩ := h 7 _ rfl Curve.cv
    exact ⟨⟨a0, a1, a2, a3, a4, a5, a6, a7⟩, ⟨h1, h2, h3, h4, h5, h6, h7, h8⟩, CRep.cons (o := 0) r0 (CRep.cons r1 (CRep.cons r2 (CRep.cons r3 (CRep.cons r4 (CRep.cons r5 (CRep.cons r6 (CRep.cons r7 (CRep.fin hl))))))))⟩
def Hold.ok (x : Hold) : Prop := (IntKind.min .i64 ≤ x.Stage ∧ x.Stage ≤ IntKind.max .i64) ∧ (IntKind.min .i64 ≤ x.Ticks ∧ x.Ticks ≤ IntKind.max .i64)
theorem Hold.cv : Cv prog 195 Hold.row 2 Hold.ok :=
  Cv.struct underlying195 (by kernel_rfl) (fun _ => rfl) fun G cs hl h => by
    obtain ⟨a0, h1, r0⟩ := h 0 _ rfl (Cv.int underlying3 (by kernel_rfl))
    obtain ⟨a1, h2, r1⟩ := h 1 _ rfl (Cv.int underlying3 (by kernel_rfl))
    exact ⟨⟨a0, a1⟩, ⟨h1, h2⟩, CRep.cons (o := 0) r0 (CRep.cons r1 (CRep.fin hl))⟩
def Run.ok (x : Run) : Prop := (IntKind.min .i64 ≤ x.From ∧ x.From ≤ IntKind.max .i64) ∧ (IntKind.min .i64 ≤ x.To ∧ x.To ≤ IntKind.max .i64) ∧ (x.Table.length ≤ 9223372036854775807 ∧ ∀ y ∈ x.Table, Hold.ok y) ∧ (IntKind.min .i64 ≤ x.Lo ∧ x.Lo ≤ IntKind.max .i64) ∧ (IntKind.min .i64 ≤ x.Hi ∧ x.Hi ≤ IntKind.max .i64)
theorem Run.cv : Cv prog 193 Run.row 5 Run.ok :=
  Cv.struct underlying193 (by kernel_rfl) (fun _ => rfl) fun G cs hl h => by
    obtain ⟨a0, h1, r0⟩ := h 0 _ rfl (Cv.int underlying3 (by kernel_rfl))
    obtain ⟨a1, h2, r1⟩ := h 1 _ rfl (Cv.int underlying3 (by kernel_rfl))
    obtain ⟨a2, h3, r2⟩ := h 2 _ rfl (Cv.slice Hold.cv (by decide) underlying191 (by kernel_rfl))
    obtain ⟨a3, h4, r3⟩ := h 3 _ rfl (Cv.int underlying3 (by kernel_rfl))
    obtain ⟨a4, h5, r4⟩ := h 4 _ rfl (Cv.int underlying3 (by kernel_rfl))
    exact ⟨⟨a0, a1, a2, a3, a4⟩, ⟨h1, h2, h3, h4, h5⟩, CRep.cons (o := 0) r0 (CRep.cons r1 (CRep.cons r2 (CRep.cons r3 (CRep.cons r4 (CRep.fin hl)))))⟩
def Block.ok (x : Block) : Prop := (IntKind.min .i64 ≤ x.Gauge ∧ x.Gauge ≤ IntKind.max .i64) ∧ (IntKind.min .i64 ≤ x.Level ∧ x.Level ≤ IntKind.max .i64) ∧ (IntKind.min .i64 ≤ x.From ∧ x.From ≤ IntKind.max .i64) ∧ (IntKind.min .i64 ≤ x.To ∧ x.To ≤ IntKind.max .i64) ∧ (IntKind.min .i64 ≤ x.Known ∧ x.Known ≤ IntKind.max .i64) ∧ (x.Runs.length ≤ 9223372036854775807 ∧ ∀ y ∈ x.Runs, Run.ok y)
theorem Block.cv : Cv prog 107 Block.row 6 Block.ok :=
  Cv.struct underlying107 (by kernel_rfl) (fun _ => rfl) fun G cs hl h => by
    obtain ⟨a0, h1, r0⟩ := h 0 _ rfl (Cv.int underlying3 (by kernel_rfl))
    obtain ⟨a1, h2, r1⟩ := h 1 _ rfl (Cv.int underlying3 (by kernel_rfl))
    obtain ⟨a2, h3, r2⟩ := h 2 _ rfl (Cv.int underlying3 (by kernel_rfl))
    obtain ⟨a3, h4, r3⟩ := h 3 _ rfl (Cv.int underlying3 (by kernel_rfl))
    obtain ⟨a4, h5, r4⟩ := h 4 _ rfl (Cv.int underlying3 (by kernel_rfl))
    obtain ⟨a5, h6, r5⟩ := h 5 _ rfl (Cv.slice Run.cv (by decide) underlying105 (by kernel_rfl))
    exact ⟨⟨a0, a1, a2, a3, a4, a5⟩, ⟨h1, h2, h3, h4, h5, h6⟩, CRep.cons (o := 0) r0 (CRep.cons r1 (CRep.cons r2 (CRep.cons r3 (CRep.cons r4 (CRep.cons r5 (CRep.fin hl))))))⟩
def WThree.ok (x : WThree) : Prop := (Reading.ok x.R) ∧ (Version.ok x.V) ∧ (Block.ok x.B)
theorem WThree.cv : Cv prog 109 WThree.row 20 WThree.ok :=
  Cv.struct underlying109 (by kernel_rfl) (fun _ => rfl) fun G cs hl h => by
    obtain ⟨a0, h1, r0⟩ := h 0 _ rfl Reading.cv
    obtain ⟨a1, h2, r1⟩ := h 1 _ rfl Version.cv
    obtain ⟨a2, h3, r2⟩ := h 2 _ rfl Block.cv
    exact ⟨⟨a0, a1, a2⟩, ⟨h1, h2, h3⟩, CRep.cons (o := 0) r0 (CRep.cons r1 (CRep.cons r2 (CRep.fin hl)))⟩
end Go.Proofs.Tryd
namespace Go.Proofs.YtjhhgpencphgoaaDoor
open Go.Eng Go.RowKit Go.ChangeShapes Go.WideShapes Go.ChangeAt
theorem Tryd.own : ownKnob Tryd.prog.godebug = none := by kernel_rfl
theorem Tryd.laidOut : laidOutB Tryd.prog = true := by kernel_rfl
theorem Tryd.g2 : Tryd.prog.globalNamed "rivermark/calendar.lengths" = some 2 := by kernel_rfl
theorem Tryd.gt2 : (Tryd.prog.globals[2]?).map (·.type) = some 232 := by kernel_rfl
theorem Tryd.g3 : Tryd.prog.globalNamed "rivermark/hash.constants" = some 3 := by kernel_rfl
theorem Tryd.gt3 : (Tryd.prog.globals[3]?).map (·.type) = some 238 := by kernel_rfl
/-- A world in which the listed variables hold what the row says. -/
noncomputable def laidWorld (os : Os) : World :=
  { World.holding Tryd.prog os ⟨#[], #[], []⟩ with heap := (((World.holding Tryd.prog os ⟨#[], #[], []⟩).heap.modify 2 fun
      | .cells _ t frozen => .cells (gl2.map fun z => Value.int .i64 z).toArray t frozen
      | o => o).modify 3 fun
      | .cells _ t frozen => .cells (gl3.map fun z => Value.int .u32 z).toArray t frozen
      | o => o) }
theorem laid_met (os : Os) (args : Array Value) : laidMet Tryd.prog Rows.leavesComeBackRow.laid ((laidWorld os).forCall (fun _ _ => 0) ⟨#[], args, []⟩).memory :=
  laidMet_of_run' 8 (by kernel_rfl) (by kernel_rfl)
theorem glOk {W : World} (hL : laidMet Tryd.prog [("rivermark/calendar.lengths", Lib.tabData .i64 gl2), ("rivermark/hash.constants", Lib.tabData .u32 gl3)] W) : GlOk (gOf W) := by
  have t2 := glOk_tab (Lib.tabIs_of_head Tryd.g2 Tryd.gt2 Tryd.underlying232 Tryd.underlying3 (by kernel_rfl) (by kernel_rfl) hL) Tryd.g2
  have l0 := laidMet.tail hL
  have t3 := glOk_tab (Lib.tabIs_of_head Tryd.g3 Tryd.gt3 Tryd.underlying238 Tryd.underlying201 (by kernel_rfl) (by kernel_rfl) l0) Tryd.g3
  intro g ds h
  unfold glOf at h
  split at h
  · cases h; exact t2
  · cases h; exact t3
  · cases h
set_option maxRecDepth 100000 in
theorem leaves_lifted (hc : ∀ (x0 : Go.Proofs.Tryd.WThree) (x1 : Go.Proofs.Tryd.WThree), (Go.Proofs.Tryd.WThree.ok x0) → (Go.Proofs.Tryd.WThree.ok x1) →  ACall Tryd.prog 11 [.agg (x0.row.map .D), .agg (x1.row.map .D)] [] (.D (.B true)) [] [])
    (os : Os) (started : os.Started) (H : Type) (enc : TypeId × Value → H) :
    ReturnsInHanded {} Tryd.checked os 11 .any (fun w args => (Rows.leavesComeBackSpec.pre enc Tryd.prog Tryd.f11 Rows.leavesComeBackRow.domain false w args ∧ laidMet Tryd.prog Rows.leavesComeBackRow.laid w) ∧ sizedMet enc Tryd.prog Tryd.f11 (OpenSpec.ofChange Rows.leavesComeBackSpec) false w args) (Rows.leavesComeBackSpec.post enc Tryd.prog Tryd.f11 false true false false) := by
  refine returnsInHanded_of_change_and (C := Tryd.checked) (X := fun w _ => laidMet Tryd.prog Rows.leavesComeBackRow.laid w) (fun _ _ _ hh h => laidMet.of_heap hh h) Tryd.own started (by kernel_rfl) Tryd.func11
    (ChangeSpec.witness_at (enc := enc) (C := Tryd.checked) (os := os) (X := fun w _ => laidMet Tryd.prog Rows.leavesComeBackRow.laid w) false (laidWorld os) #[.agg #[.int .i64 0, .int .i64 0, .int .i64 0, .int .i64 0, .int .i64 0, .int .i64 0, .int .i64 0, .int .i64 0, .int .i64 0, .int .i64 0, .int .i64 0, .int .i64 0, .int .i64 0, .slice none 0 0, .int .i64 0, .int .i64 0, .int .i64 0, .int .i64 0, .int .i64 0, .slice none 0 0], .agg #[.int .i64 0, .int .i64 0, .int .i64 0, .int .i64 0, .int .i64 0, .int .i64 0, .int .i64 0, .int .i64 0, .int .i64 0, .int .i64 0, .int .i64 0, .int .i64 0, .int .i64 0, .slice none 0 0, .int .i64 0, .int .i64 0, .int .i64 0, .int .i64 0, .int .i64 0, .slice none 0 0]] 8 rfl (by kernel_rfl) (by kernel_rfl) (by kernel_rfl) (by kernel_rfl) (by kernel_rfl) (laid_met os _)) ?_
  intro W base args ds gs before hval0 hW _ _ hL _
  have hval : ∀ (j : Nat) t v, Tryd.f11.params[j]? = some t → args[j]? = some v → Value.okWide Tryd.prog W .any base t v := hval0
  have hW' := hW
  obtain ⟨p, q, hA0, hV, rfl, hfz, hnd⟩ := hW
  have hA : DataW.TrodAll enc Tryd.prog W 0 (fun _ => true) true Tryd.f11.params.toList args.toList ds p := hA0
  rw [Tryd.params11] at hA hval
  obtain ⟨v0, vs1, d0, ds1, p0, p1, e0, rfl, _, t0, hA1⟩ := trodAll_cons hA
  obtain ⟨v1, vs2, d1, ds2, _, _, rfl, rfl, _, t1, hA2⟩ := trodAll_cons hA1
  obtain ⟨rfl, rfl, _⟩ := trodAll_nil hA2
  obtain ⟨rfl, rfl⟩ := trodVars_none hV
  have hargs : args = #[v0, v1] := by rw [← Array.toArray_toList (xs := args), e0]
  subst hargs
  obtain ⟨w0, rfl, _⟩ := okWide_struct Tryd.underlying109 (hval 0 109 v0 rfl rfl)
  obtain ⟨w1, rfl, _⟩ := okWide_struct Tryd.underlying109 (hval 1 109 v1 rfl rfl)
  obtain ⟨f0, t0⟩ := t0
  obtain ⟨f1, t1⟩ := t1
  obtain ⟨x0, k0, r0⟩ := (Go.Proofs.Tryd.WThree.cv).get enc W _ _ f0 _ _ t0
  obtain ⟨x1, k1, r1⟩ := (Go.Proofs.Tryd.WThree.cv).get enc W _ _ f1 _ _ t1
  have hrep : AV.RepL (gOf W) (fun _ => none) [.agg (x0.row.map .D), .agg (x1.row.map .D)] [.agg w0, .agg w1] := by
    unfold AV.RepL
    refine ⟨_, _, rfl, crep_agg r0, ?_⟩
    unfold AV.RepL
    refine ⟨_, _, rfl, crep_agg r1, ?_⟩
    unfold AV.RepL; rfl
  refine (law_calls ⟨Tryd.f11, Tryd.func11, by kernel_rfl, by kernel_rfl⟩ (glOk hL) (vs := #[.agg w0, .agg w1]) (hc x0 x1 k0 k1) hrep).mono fun e W' ⟨he, hb⟩ => ?_
  exact ⟨_, he, law_post (tb := 4) Tryd.laidOut hW' rfl rfl (by rfl) Tryd.underlying4 (by rw [Tryd.params11]; decide +kernel) hb⟩
theorem leaves_holds (hc : ∀ (x0 : Go.Proofs.Tryd.WThree) (x1 : Go.Proofs.Tryd.WThree), (Go.Proofs.Tryd.WThree.ok x0) → (Go.Proofs.Tryd.WThree.ok x1) →  ACall Tryd.prog 11 [.agg (x0.row.map .D), .agg (x1.row.map .D)] [] (.D (.B true)) [] []) : Rows.LeavesComeBackSaid :=
  OpenClaim.holds_of_wide 11 Tryd.f11 rfl rfl rfl rfl rfl rfl rfl ⟨rfl, rfl, rfl, rfl, rfl⟩ rfl rfl rfl rfl rfl (by kernel_rfl) Tryd.func11 (by kernel_rfl)
    (of_decide_eq_true (by kernel_rfl)) (by unfold Func.isWrapper; first | (rw [if_pos (by decide +kernel)]; kernel_rfl) | (rw [if_neg (by decide +kernel)]; exact ⟨rfl, rfl⟩))
    (fun os started H enc _ => leaves_lifted hc os started H enc)
theorem leaves_said : Rows.LeavesComeBackSaid := leaves_holds fun x0 x1 k0 k1 => Go.Proofs.Tryd.c_law23_LeavesComeBack 7000 x0 x1 true (Go.Proofs.Tryd.law11_all 7000 (by omega) x0 x1 k0 k1)
theorem leaves_card : Rows.LeavesComeBackCardSaid :=
  Claim7.holds_tied_plain_at .later [] [.data, .data] true (true, "81ac52f078b63a2afad7e3117cff2836913e2444110d93355cacfc2370b8fad1") true leaves_said (fun _ h => by cases h) (by kernel_rfl) (fun _ h => by cases h) leavesComeBack_row_tie rfl ⟨rfl, rfl⟩ (by kernel_rfl) rfl
    (fun f fn hf hfn => by
      obtain rfl : f = 11 := Option.some.inj ((show Tryd.prog.funcNamed "rivermark/rivermarklaw23.LeavesComeBack" = some 11 by kernel_rfl).symm.trans hf) |>.symm
      obtain rfl : fn = Tryd.f11 := (Option.some.inj (Tryd.func11.symm.trans hfn)).symm
      exact ⟨by kernel_rfl, fun j t ht => by
        rw [Tryd.params11] at ht
        have hm : t ∈ [109, 109] := by
          obtain ⟨hj, e⟩ := Array.getElem?_eq_some_iff.1 ht
          rw [← e]
          exact Array.getElem_mem_toList hj
        have ha : ∀ t ∈ [109, 109], Tryd.prog.wantsStandIn t = false := by decide +kernel
        exact ha t hm⟩)
    (by kernel_rfl)
end Go.Proofs.YtjhhgpencphgoaaDoor
