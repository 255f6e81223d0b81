/- For every input that the row takes, LeafProofsAreAccepted answers true and leaves its arguments as they were. No condition but the row's own. -/
import Derived.Test.YtjhhgpencphgoaaDoorL9G3
import Derived.Test.YtjhhgpencphgoaaDoorP1
import Derived.Test.YtjhhgpencphgoaaDoorP1
import Derived.Lib.Varint
import Derived.Lib.BitFns
import Derived.Laws.Bits64
import Derived.Test.YtjhhgpencphgoaaDoorE32
import Derived.Test.YtjhhgpencphgoaaDoorRows
import Derived.Test.YtjhhgpencphgoaaDoorCards
import Derived.Test.YtjhhgpencphgoaaDoorTie
import Derived.SevenTiedAt
import Derived.LaidLaws
import Derived.Stop.LaidErr
set_option linter.unusedSimpArgs false
set_option linter.unusedVariables false
namespace Go.Proofs.Tryd
open Go.Eng

theorem q8 (n : Nat) : IntKind.wrap .u8 (n : Int) = ((n % 256 : Nat) : Int) := by
  rw [IntKind.wrap_u8]; omega
theorem q64 {x : Int} (h : 0 ≤ x) (h' : x < 18446744073709551616) : IntKind.wrap .u64 x = x := by rw [IntKind.wrap_u64]; omega
def I64 (n : Int) : Prop := -9223372036854775808 ≤ n ∧ n ≤ 9223372036854775807
theorem bytesI_ints (s : Str) : bytesI (intsS s) = s := by
  unfold bytesI intsS
  rw [List.map_map]
  conv => rhs; rw [← List.map_id s]
  refine List.map_congr_left fun c _ => ?_
  show UInt8.ofNat ((c.toNat : Int)).toNat = c
  rw [Int.toNat_natCast]; exact UInt8.ofNat_toNat

open Go.Lib in
theorem int_loop (N : Nat) : ∀ (k z m : Nat) (a : List Int), z < 128 ^ (k + 1) → z < 18446744073709551616 → k < m → a.length + k < 1000000 →
    L_wire_Int_0 N m (z : Int) a = some (a ++ intsS (uvarint z))
  | k, z, 0, a, _, _, h, _ => by omega
  | k, z, m + 1, a, hz, hz2, hm, hal => by
    rw [L_wire_Int_0, q8]
    by_cases h : 128 ≤ z
    · obtain ⟨k', rfl⟩ : ∃ k', k = k' + 1 := ⟨k - 1, by cases k with
        | zero => have : 128 ^ (0 + 1) = 128 := rfl; omega
        | succ k => rfl⟩
      have e1 : bits .or .u8 ((z % 256 : Nat) : Int) 128 = ((z % 128 + 128 : Nat) : Int) := by
        rw [Go.Lib.u8_or128_any _ (by omega) (by omega)]; omega
      have e4 : (z : Int) / 2 ^ (7 : Int).toNat = ((z / 128 : Nat) : Int) := rfl
      rw [e1, e4, show decide ((z : Int) > 127) = true by rw [decide_eq_true_eq]; omega, if_true?, gd_of (by simp only [List.length_cons, List.length_nil]; omega)]
      rw [int_loop N k' (z / 128) m (a ++ [((z % 128 + 128 : Nat) : Int)]) (by have : 128 ^ (k' + 1 + 1) = 128 ^ (k' + 1) * 128 := rfl; omega) (by omega) (by omega) (by simp only [List.length_append, List.length_cons, List.length_nil]; omega), uvarint_big h, List.append_assoc]
      refine congrArg (fun l => some (a ++ l)) ?_
      show _ :: intsS (uvarint (z / 128)) = (((z % 128 + 128).toUInt8.toNat : Nat) : Int) :: intsS (uvarint (z / 128))
      rw [show (z % 128 + 128).toUInt8.toNat = z % 128 + 128 by
        show (z % 128 + 128) % 256 = _; omega]
    · rw [show decide ((z : Int) > 127) = false by rw [decide_eq_false_iff_not]; omega, if_false?, gd_of (by simp only [List.length_cons, List.length_nil]; omega), uvarint_small (by omega)]
      refine congrArg (fun l => some (a ++ l)) ?_
      show [((z % 256 : Nat) : Int)] = [((z.toUInt8.toNat : Nat) : Int)]
      rw [show z.toUInt8.toNat = z % 256 from rfl]
open Go.Lib in
theorem Int_enc (N : Nat) (n : Int) (hN : 20 ≤ N) (hn : I64 n) : F_wire_Int N n = some (intsS (uvarint (zigzag n))) := by
  obtain ⟨h1, h2⟩ := hn
  have e1 : (2 : Int) ^ (63 : Int).toNat = 9223372036854775808 := rfl
  have e2 : (2 : Int) ^ (1 : Int).toNat = 2 := rfl
  have hz : zigzag n < 18446744073709551616 := by unfold zigzag; split <;> omega
  have key : bits .xor .u64 (IntKind.wrap .u64 ((IntKind.wrap .u64 n) * 2)) (IntKind.wrap .u64 (n / 9223372036854775808)) = ((zigzag n : Nat) : Int) := by
    by_cases h : 0 ≤ n
    · have hz' : zigzag n = (2 * n).toNat := by unfold zigzag; rw [if_pos h]
      rw [show n / 9223372036854775808 = ((0 : Nat) : Int) by omega, q64 (x := n) h (by omega), q64 (x := n * 2) (by omega) (by omega), q64 (x := ((0 : Nat) : Int)) (by omega) (by omega), show n * 2 = (((2 * n).toNat : Nat) : Int) by omega, Go.bits_xor_u64_nat _ _ (by omega) (by omega), Nat.xor_zero, hz']
    · have hz' : zigzag n = (-2 * n - 1).toNat := by unfold zigzag; rw [if_neg h]
      have w : ∀ x : Int, IntKind.wrap .u64 x = x % 18446744073709551616 := fun x => IntKind.wrap_u64 x
      obtain ⟨y, hy, hy2⟩ : ∃ y : Nat, (((n % 18446744073709551616) * 2) % 18446744073709551616 : Int) = (y : Int) ∧ (y : Int) = 18446744073709551616 + 2 * n := ⟨(18446744073709551616 + 2 * n).toNat, by omega, by omega⟩
      rw [w, w, w, hy, show n / 9223372036854775808 % 18446744073709551616 = ((18446744073709551615 : Nat) : Int) by omega, Go.bits_xor_u64_nat _ _ (by omega) (by omega)]
      have hx : y ^^^ 18446744073709551615 = 18446744073709551615 - y := by
        rw [Nat.xor_comm]
        apply Nat.eq_of_testBit_eq
        intro i
        rw [Nat.testBit_xor, show 18446744073709551615 - y = 2 ^ 64 - (y + 1) by omega, Nat.testBit_two_pow_sub_succ (by omega), show (18446744073709551615 : Nat) = 2 ^ 64 - (0 + 1) from rfl, Nat.testBit_two_pow_sub_succ (by omega)]
        by_cases hi : i < 64
        · simp [hi]
        · have : y.testBit i = false := Nat.testBit_lt_two_pow (Nat.lt_of_lt_of_le (show y < 2 ^ 64 by omega) (Nat.pow_le_pow_right (by decide) (by omega)))
          simp [hi, this]
      rw [hx, hz']; omega
  unfold F_wire_Int
  rw [e1, e2, key, int_loop N 9 (zigzag n) N [] (by have : 128 ^ (9 + 1) = 1180591620717411303424 := rfl; omega) hz (by omega) (by simp), List.nil_append]
end Go.Proofs.Tryd
namespace Go.Proofs.Tryd
open Go.Eng

def unz (z : Nat) : Int := if z % 2 = 0 then ((z / 2 : Nat) : Int) else -((z / 2 : Nat) : Int) - 1
def giN : Nat → Nat → Str → Int × Int × Int
  | _, _, [] => (0, 0, 10)
  | k, z, c :: r => if (k = 9 ∧ 1 < c.toNat) ∨ (0 < k ∧ c.toNat = 0) then (0, 0, 11) else if c.toNat < 128 then (unz (z + c.toNat % 128 * 128 ^ k), ((k + 1 : Nat) : Int), 0) else giN (k + 1) (z + c.toNat % 128 * 128 ^ k) r

theorem wraps_u64 (n : Int) (h₀ : 0 ≤ n) (h₁ : n < 2 ^ 64) : IntKind.u64.wrap n = n := by rw [IntKind.wrap_u64]; omega
theorem xor_i64 (x b : Nat) (hx : x < 9223372036854775808) (hb : b < 2) : bits .xor .i64 (x : Int) (-(b : Int)) = if b = 0 then (x : Int) else -(x : Int) - 1 := by
  obtain rfl | rfl : b = 0 ∨ b = 1 := by omega
  · simp only [bits, if_pos]
    rw [show (-((0 : Nat) : Int)) = ((0 : Nat) : Int) from rfl, BitVec.ofInt_natCast, BitVec.ofInt_natCast, BitVec.toNat_xor, BitVec.toNat_ofNat, BitVec.toNat_ofNat]
    rw [show (0 % 2 ^ IntKind.i64.bits) = 0 from rfl, Nat.xor_zero, IntKind.wrap_i64, show IntKind.i64.bits = 64 from rfl]
    omega
  · rw [if_neg (by decide)]
    simp only [bits]
    have hone : BitVec.ofInt IntKind.i64.bits (-((1 : Nat) : Int)) = BitVec.allOnes IntKind.i64.bits := by decide
    rw [hone, BitVec.ofInt_natCast, BitVec.xor_allOnes, BitVec.toNat_not, BitVec.toNat_ofNat, IntKind.wrap_i64, show IntKind.i64.bits = 64 from rfl]
    omega
theorem zz_eq (z k c : Nat) (hz : z < 128 ^ k) (hk : k ≤ 9) (hc : c < 256) (h1 : k = 9 → c ≤ 1) :
    bits .or .u64 (z : Int) (IntKind.wrap .u64 ((IntKind.wrap .u64 ((bits .and .u8 (c : Int) 127))) * 2 ^ (7 * (k : Int)).toNat)) = ((z + c % 128 * 128 ^ k : Nat) : Int) ∧ z + c % 128 * 128 ^ k < 18446744073709551616 ∧ (k < 9 → z + c % 128 * 128 ^ k < 128 ^ (k + 1)) := by
  have p9 : 128 ^ k ≤ 9223372036854775808 := Nat.le_trans (Nat.pow_le_pow_right (by decide) hk) (by decide)
  have hm : c % 128 < 128 := Nat.mod_lt _ (by decide)
  have hb : z + c % 128 * 128 ^ k < 18446744073709551616 ∧ (k < 9 → z + c % 128 * 128 ^ k < 128 ^ (k + 1)) := by
    have e : 128 ^ (k + 1) = 128 ^ k * 128 := rfl
    have h2 : c % 128 * 128 ^ k ≤ 127 * 128 ^ k := Nat.mul_le_mul_right _ (by omega)
    refine ⟨?_, fun _ => by omega⟩
    by_cases h : k = 9
    · subst h
      have h3 : c % 128 * 128 ^ 9 ≤ 1 * 128 ^ 9 := Nat.mul_le_mul_right _ (by have := h1 rfl; omega)
      omega
    · have p8 : 128 ^ k ≤ 72057594037927936 := Nat.le_trans (Nat.pow_le_pow_right (by decide) (show k ≤ 8 by omega)) (by decide)
      omega
  refine ⟨?_, hb⟩
  have e1 : bits .and .u8 (c : Int) 127 = ((c % 128 : Nat) : Int) := by
    have := bits_mask .u8 8 (by decide) wraps_u8 7 (by decide) (c : Int) (by omega) (by omega)
    rw [show ((2 : Int) ^ 7 - 1) = 127 from rfl] at this
    rw [this]; omega
  have e2 : (2 : Int) ^ (7 * (k : Int)).toNat = ((128 ^ k : Nat) : Int) := by
    rw [show (7 * (k : Int)).toNat = 7 * k by omega, Int.pow_mul]
    simp
  have hx : c % 128 * 128 ^ k < 18446744073709551616 := by omega
  rw [e1, q64 (x := ((c % 128 : Nat) : Int)) (by omega) (by omega), e2, ← Int.natCast_mul, q64 (x := ((c % 128 * 128 ^ k : Nat) : Int)) (by omega) (by omega), (bits_nat .u64 64 (by decide) wraps_u64 _ _ (by omega) (by omega)).2]
  congr 1
  have e3 : 128 ^ k = 2 ^ (7 * k) := by rw [Nat.pow_mul]
  rw [e3] at hz ⊢
  have := Nat.shiftLeft_add_eq_or_of_lt hz (c % 128)
  rw [Nat.shiftLeft_eq] at this
  rw [Nat.or_comm, ← this, Nat.add_comm]
theorem gi_tail (N : Nat) (p0 : List Int) (m z k c : Nat) (hz : z < 128 ^ k) (hk : k ≤ 9) (hc : c < 256) (h1 : k = 9 → c ≤ 1) :
    (ck .i64 (7 * (k : Int)) (gd? (0 ≤ (7 * (k : Int))) (gd? ((7 * (k : Int)) ≤ (IntKind.bits .u64 : Int)) (if? (decide ((c : Int) < 128)) (ck .i64 ((k : Int) + 1) (if? ((((k : Int) + 1) == 0)) (some (0, 0, 10)) (ck .i64 (((bits .or .u64 (z : Int) (IntKind.wrap .u64 ((IntKind.wrap .u64 ((bits .and .u8 (c : Int) 127))) * 2 ^ (7 * (k : Int)).toNat))) / 2 ^ (1 : Int).toNat)) (ck .i64 ((bits .and .u64 (bits .or .u64 (z : Int) (IntKind.wrap .u64 ((IntKind.wrap .u64 ((bits .and .u8 (c : Int) 127))) * 2 ^ (7 * (k : Int)).toNat))) 1)) (ck .i64 (-((bits .and .u64 (bits .or .u64 (z : Int) (IntKind.wrap .u64 ((IntKind.wrap .u64 ((bits .and .u8 (c : Int) 127))) * 2 ^ (7 * (k : Int)).toNat))) 1))) (some ((bits .xor .i64 (((bits .or .u64 (z : Int) (IntKind.wrap .u64 ((IntKind.wrap .u64 ((bits .and .u8 (c : Int) 127))) * 2 ^ (7 * (k : Int)).toNat))) / 2 ^ (1 : Int).toNat)) (-((bits .and .u64 (bits .or .u64 (z : Int) (IntKind.wrap .u64 ((IntKind.wrap .u64 ((bits .and .u8 (c : Int) 127))) * 2 ^ (7 * (k : Int)).toNat))) 1)))), ((k : Int) + 1), 0))))))) (ck .i64 ((k : Int) + 1) (L_wire_GetInt_0 N p0 m (bits .or .u64 (z : Int) (IntKind.wrap .u64 ((IntKind.wrap .u64 ((bits .and .u8 (c : Int) 127))) * 2 ^ (7 * (k : Int)).toNat))) ((k : Int) + 1))))))) = if c < 128 then some (unz (z + c % 128 * 128 ^ k), ((k + 1 : Nat) : Int), 0) else L_wire_GetInt_0 N p0 m ((z + c % 128 * 128 ^ k : Nat) : Int) ((k + 1 : Nat) : Int) := by
  obtain ⟨h2, h3, h4⟩ := zz_eq z k c hz hk hc h1
  rw [h2]
  generalize z + c % 128 * 128 ^ k = y at *
  have e4 : (y : Int) / 2 ^ (1 : Int).toNat = ((y / 2 : Nat) : Int) := rfl
  have e5 : bits .and .u64 (y : Int) 1 = ((y % 2 : Nat) : Int) := by
    have := bits_mask .u64 64 (by decide) wraps_u64 1 (by decide) (y : Int) (by omega) (by omega)
    rw [show ((2 : Int) ^ 1 - 1) = 1 from rfl] at this
    rw [this]; omega
  rw [e4, e5, xor_i64 _ _ (by omega) (by omega), ck_of (by omega) (by omega), gd_of (by omega), gd_of (by show (7 * (k : Int)) ≤ ((64 : Nat) : Int); omega), show ((k : Int) + 1) = ((k + 1 : Nat) : Int) by omega]
  by_cases hh : c < 128
  · rw [show decide ((c : Int) < 128) = true by rw [decide_eq_true_eq]; omega, if_true?, if_pos hh, ck_of (by omega) (by omega), show (((k + 1 : Nat) : Int) == 0) = false by rw [beq_eq_false_iff_ne]; omega, if_false?, ck_of (by omega) (by omega), ck_of (by omega) (by omega), ck_of (by omega) (by omega)]
    rfl
  · rw [show decide ((c : Int) < 128) = false by rw [decide_eq_false_iff_not]; omega, if_false?, if_neg hh, ck_of (by omega) (by omega)]
theorem gi_loop (N : Nat) (s : Str) : ∀ (r : Str) (k z m : Nat), s.drop k = r → k ≤ 9 → z < 128 ^ k → 10 < m + k → L_wire_GetInt_0 N (intsS s) m (z : Int) (k : Int) = some (giN k z r)
  | r, k, z, 0, _, _, _, h => by omega
  | [], k, z, m + 1, hr, hk, hz, hm => by
    have : s.length ≤ k := by
      have := congrArg List.length hr
      rw [List.length_drop, List.length_nil] at this; omega
    rw [L_wire_GetInt_0, show decide ((k : Int) < ((intsS s).length : Int)) = false by rw [decide_eq_false_iff_not, intsS_len]; omega, if_false?]; rfl
  | c :: r, k, z, m + 1, hr, hk, hz, hm => by
    have hlen : k < s.length := by
      have := congrArg List.length hr
      rw [List.length_drop, List.length_cons] at this; omega
    have hc : s[k] = c := by
      have := congrArg (·[0]?) hr
      simp only [List.getElem?_drop, Nat.add_zero, List.getElem?_cons_zero] at this
      rw [List.getElem?_eq_getElem hlen] at this
      exact Option.some.inj this
    have hr' : s.drop (k + 1) = r := by
      have := congrArg List.tail hr
      rw [List.tail_drop] at this; exact this
    have hcl := c.toNat_lt
    have hget : ∀ f : Int → Option (Int × Int × Int), get? (intsS s) (k : Int) f = f (c.toNat : Int) := fun f => by
      rw [get_of (by rw [intsS_len]; exact hlen)]
      refine congrArg f ?_
      unfold intsS
      rw [List.getElem_map, hc]
    rw [L_wire_GetInt_0, show decide ((k : Int) < ((intsS s).length : Int)) = true by rw [decide_eq_true_eq, intsS_len]; omega, if_true?, hget]
    rw [giN]
    generalize hcn : c.toNat = d at *
    have rest : ¬ ((k = 9 ∧ 1 < d) ∨ (0 < k ∧ d = 0)) → (if d < 128 then some (unz (z + d % 128 * 128 ^ k), ((k + 1 : Nat) : Int), 0) else L_wire_GetInt_0 N (intsS s) m ((z + d % 128 * 128 ^ k : Nat) : Int) ((k + 1 : Nat) : Int)) = some (if d < 128 then (unz (z + d % 128 * 128 ^ k), ((k + 1 : Nat) : Int), 0) else giN (k + 1) (z + d % 128 * 128 ^ k) r) := fun hn => by
      by_cases hh : d < 128
      · rw [if_pos hh, if_pos hh]
      · rw [if_neg hh, if_neg hh]
        have hk9 : k ≠ 9 := fun e => hn (.inl ⟨e, by omega⟩)
        exact gi_loop N s r (k + 1) _ m hr' (by omega) ((zz_eq z k d hz hk (by omega) (fun e => absurd e hk9)).2.2 (by omega)) (by omega)
    by_cases hbad : (k = 9 ∧ 1 < d) ∨ (0 < k ∧ d = 0)
    · rw [if_pos hbad]
      by_cases h1 : k = 9
      · subst h1
        rw [show (((9 : Nat) : Int) == 9) = true from rfl, if_true?]
        by_cases h2 : 1 < d
        · rw [show decide ((d : Int) > 1) = true by rw [decide_eq_true_eq]; omega, if_true?]
        · have h3 : d = 0 := by omega
          subst h3
          rfl
      · have hd : 0 < k ∧ d = 0 := by omega
        rw [show ((k : Int) == 9) = false by rw [beq_eq_false_iff_ne]; omega, if_false?, show decide ((k : Int) > 0) = true by rw [decide_eq_true_eq]; omega, if_true?, show ((d : Int) == 0) = true by rw [beq_iff_eq]; omega, if_true?]
    · rw [if_neg hbad, ← rest hbad, gi_tail N (intsS s) m z k d hz hk (by omega) (by omega)]
      by_cases h1 : k = 9
      · rw [show ((k : Int) == 9) = true by rw [beq_iff_eq]; omega, if_true?, show decide ((d : Int) > 1) = false by rw [decide_eq_false_iff_not]; omega, if_false?, show decide ((k : Int) > 0) = true by rw [decide_eq_true_eq]; omega, if_true?, show ((d : Int) == 0) = false by rw [beq_eq_false_iff_ne]; omega, if_false?]
      · rw [show ((k : Int) == 9) = false by rw [beq_eq_false_iff_ne]; omega, if_false?]
        by_cases h3 : 0 < k
        · rw [show decide ((k : Int) > 0) = true by rw [decide_eq_true_eq]; omega, if_true?, show ((d : Int) == 0) = false by rw [beq_eq_false_iff_ne]; omega, if_false?]
        · rw [show decide ((k : Int) > 0) = false by rw [decide_eq_false_iff_not]; omega, if_false?]
/-- wire.GetInt. -/
def gi (s : Str) : Int × Int × Int := giN 0 0 s
theorem GetInt_eq (N : Nat) (hN : 11 ≤ N) (s : Str) : F_wire_GetInt N (intsS s) = some (gi s) := by
  unfold F_wire_GetInt
  exact gi_loop N s s 0 0 N rfl (by omega) (by decide) (by omega)
end Go.Proofs.Tryd
namespace Go.Proofs.Tryd
open Go.Eng

theorem unz_I64 {z : Nat} (h : z < 18446744073709551616) : I64 (unz z) := by
  unfold unz I64; split <;> omega
theorem giN_ok : ∀ (s : Str) (k z : Nat), k ≤ 9 → z < 128 ^ k → (((giN k z s).2.2 = 0 ∧ ∃ u : Nat, (giN k z s).2.1 = (u : Int) ∧ k + 1 ≤ u ∧ u ≤ k + s.length ∧ u ≤ 10 ∧ I64 (giN k z s).1) ∨ ((giN k z s).1 = 0 ∧ (giN k z s).2.1 = 0 ∧ ((giN k z s).2.2 = 10 ∨ (giN k z s).2.2 = 11)))
  | [], k, z, _, _ => .inr ⟨rfl, rfl, .inl rfl⟩
  | c :: s, k, z, hk, hz => by
    rw [giN]
    by_cases hb : (k = 9 ∧ 1 < c.toNat) ∨ (0 < k ∧ c.toNat = 0)
    · rw [if_pos hb]; exact .inr ⟨rfl, rfl, .inr rfl⟩
    · rw [if_neg hb]
      have hcl := c.toNat_lt
      obtain ⟨_, h1, h2⟩ := zz_eq z k c.toNat hz hk (by omega) (by omega)
      by_cases hh : c.toNat < 128
      · rw [if_pos hh]
        exact .inl ⟨rfl, k + 1, rfl, by omega, by simp only [List.length_cons]; omega, by omega, unz_I64 h1⟩
      · rw [if_neg hh]
        have hk9 : k < 9 := by omega
        rcases giN_ok s (k + 1) _ (by omega) (h2 hk9) with ⟨e, u, h3, h1, h2, h4, h5⟩ | h
        · exact .inl ⟨e, u, h3, by omega, by simp only [List.length_cons]; omega, h4, h5⟩
        · exact .inr h
theorem gi_ok (s : Str) : ((gi s).2.2 = 0 ∧ ∃ u : Nat, (gi s).2.1 = (u : Int) ∧ 1 ≤ u ∧ u ≤ s.length ∧ u ≤ 10 ∧ I64 (gi s).1) ∨ ((gi s).1 = 0 ∧ (gi s).2.1 = 0 ∧ ((gi s).2.2 = 10 ∨ (gi s).2.2 = 11)) := by
  rcases giN_ok s 0 0 (by omega) (by decide) with ⟨e, u, h1, h2, h3, h4, h5⟩ | h
  · exact .inl ⟨e, u, h1, by omega, by omega, h4, h5⟩
  · exact .inr h

/-- The count at the head of a list. -/
def lenW (s : Str) : Int × Int × Int :=
  if (gi s).2.2 ≠ 0 then (0, 0, (gi s).2.2) else if (gi s).1 < 0 then (0, 0, 11) else if (gi s).1 > (s.length : Int) - (gi s).2.1 then (0, 0, 10) else ((gi s).1, (gi s).2.1, 0)
theorem ne_f {a b : Int} (h : a = b) : (a != b) = false := by rw [bne_eq_false_iff_eq]; exact h
theorem ne_t {a b : Int} (h : a ≠ b) : (a != b) = true := by rw [bne_iff_ne]; exact h
theorem length_eq (N : Nat) (hN : 11 ≤ N) (s : Str) (hs : s.length ≤ 1000000) : F_wire_length N (intsS s) 1 = some (lenW s) := by
  unfold F_wire_length lenW
  rw [GetInt_eq N hN, bd_some, intsS_len]
  rcases gi_ok s with ⟨e, u, h1, h2, h3, h4, h5⟩ | ⟨h1, h2, h3⟩
  · obtain ⟨b1, b2⟩ := h5
    rw [ne_f e, if_false?, if_neg (by rw [e]; simp), h1, Int.tdiv_one]
    by_cases hn : (gi s).1 < 0
    · rw [show decide ((gi s).1 < 0) = true from decide_eq_true hn, if_true?, if_pos hn]
    · rw [show decide ((gi s).1 < 0) = false from decide_eq_false hn, if_false?, if_neg hn, ck_of (by omega) (by omega), gd_of (by decide), ck_of (by omega) (by omega)]
      by_cases hg : (gi s).1 > (s.length : Int) - (u : Int)
      · rw [show decide ((gi s).1 > (s.length : Int) - (u : Int)) = true from decide_eq_true hg, if_true?, if_pos hg]
      · rw [show decide ((gi s).1 > (s.length : Int) - (u : Int)) = false from decide_eq_false hg, if_false?, if_neg hg]
  · have hne : (gi s).2.2 ≠ 0 := by omega
    rw [ne_t hne, if_true?, if_pos hne]
theorem lenW_ok (s : Str) : ((lenW s).2.2 = 0 ∧ ∃ n u : Nat, lenW s = ((n : Int), (u : Int), 0) ∧ 1 ≤ u ∧ n + u ≤ s.length) ∨ ((lenW s).1 = 0 ∧ (lenW s).2.1 = 0 ∧ ((lenW s).2.2 = 10 ∨ (lenW s).2.2 = 11)) := by
  unfold lenW
  rcases gi_ok s with ⟨e, u, h1, h2, h3, h4, h5⟩ | ⟨h1, h2, h3⟩
  · rw [if_neg (by rw [e]; simp)]
    by_cases hn : (gi s).1 < 0
    · rw [if_pos hn]; exact .inr ⟨rfl, rfl, .inr rfl⟩
    · rw [if_neg hn]
      by_cases hg : (gi s).1 > (s.length : Int) - (gi s).2.1
      · rw [if_pos hg]; exact .inr ⟨rfl, rfl, .inl rfl⟩
      · rw [if_neg hg]
        refine .inl ⟨rfl, (gi s).1.toNat, u, ?_, h2, by omega⟩
        rw [h1, Int.toNat_of_nonneg (by omega)]
  · rw [if_pos (by omega)]
    exact .inr ⟨rfl, rfl, h3⟩

def getsI : Nat → Str → Int → List Int → List Int × Int × Int
  | 0, _, a, acc => (acc, a, 0)
  | n + 1, r, a, acc => if (gi r).2.2 ≠ 0 then ([], 0, (gi r).2.2) else getsI n (r.drop (gi r).2.1.toNat) (a + (gi r).2.1) (acc ++ [(gi r).1])
theorem ints_tail (s : Str) (a : Nat) : ((intsS s).drop a).take ((intsS s).length - a) = intsS (s.drop a) := by
  rw [intsS_drop, List.take_of_length_le (by rw [List.length_drop]; exact Nat.le_refl _)]
theorem getsI_loop (N : Nat) (hN : 11 ≤ N) (s : Str) (v : Int × Int × Int) (hs : s.length ≤ 1000000) : ∀ (n a b m : Nat) (acc : List Int), v.1 = ((b + n : Nat) : Int) → a ≤ s.length → b + n ≤ 1000000 → acc.length = b → n < m →
    L_wire_get_int_0 N (intsS s) v m (a : Int) (b : Int) acc = some (getsI n (s.drop a) (a : Int) acc)
  | n, a, b, 0, acc, _, _, _, _, h => by omega
  | 0, a, b, m + 1, acc, hv, ha, hb, hacc, _ => by
    rw [L_wire_get_int_0, hv, show decide ((b : Int) < ((b + 0 : Nat) : Int)) = false from decide_eq_false (by omega), if_false?]; rfl
  | n + 1, a, b, m + 1, acc, hv, ha, hb, hacc, hm => by
    rw [L_wire_get_int_0, hv, show decide ((b : Int) < ((b + (n + 1) : Nat) : Int)) = true from decide_eq_true (by omega), if_true?, gd_of (by omega), Int.toNat_natCast, gd_of (by rw [intsS_len]; exact ha), ints_tail, GetInt_eq N hN, bd_some, getsI]
    rcases gi_ok (s.drop a) with ⟨e, u, h1, h2, h3, h4, h5⟩ | ⟨h1, h2, h3⟩
    · rw [List.length_drop] at h3
      rw [ne_f e, if_false?, if_neg (by rw [e]; simp), gd_of (by simp only [List.length_cons, List.length_nil]; omega), h1, ck_of (by omega) (by omega), ck_of (by omega) (by omega), show ((a : Int) + (u : Int)) = ((a + u : Nat) : Int) by omega, show ((b : Int) + 1) = ((b + 1 : Nat) : Int) by omega,
        getsI_loop N hN s v hs n (a + u) (b + 1) m _ (by rw [hv]; omega) (by omega) (by omega) (by simp [hacc]) (by omega), Int.toNat_natCast, List.drop_drop]
    · have hne : (gi (s.drop a)).2.2 ≠ 0 := by omega
      rw [ne_t hne, if_true?, if_pos hne]
def gints (s : Str) : List Int × Int × Int := if (lenW s).2.2 ≠ 0 then ([], 0, (lenW s).2.2) else getsI (lenW s).1.toNat (s.drop (lenW s).2.1.toNat) (lenW s).2.1 []
theorem GetInts_eq (N : Nat) (s : Str) (hN : 11 ≤ N) (hs : s.length < N) (hb : s.length ≤ 1000000) : F_wire_GetInts N (intsS s) = some (gints s) := by
  unfold F_wire_GetInts F_wire_get_int gints
  rw [length_eq N hN s hb, bd_some]
  rcases lenW_ok s with ⟨e, n, u, h1, h2, h3⟩ | ⟨h1, h2, h3⟩
  · rw [ne_f e, if_false?, if_neg (by rw [e]; simp)]
    have e1 : (lenW s).1 = (n : Int) := by rw [h1]
    have e2 : (lenW s).2.1 = (u : Int) := by rw [h1]
    rw [e2]
    have := getsI_loop N hN s (lenW s) hb n u 0 N [] (by rw [e1]; omega) (by omega) (by omega) rfl (by omega)
    rw [show (((0 : Nat) : Int)) = 0 from rfl] at this
    rw [this, bd_some, e1, Int.toNat_natCast, Int.toNat_natCast]
  · have hne : (lenW s).2.2 ≠ 0 := by omega
    rw [ne_t hne, if_true?, if_pos hne, bd_some]

def gbytes (s : Str) : Str × Int × Int := if (lenW s).2.2 ≠ 0 then ([], 0, (lenW s).2.2) else ((s.drop (lenW s).2.1.toNat).take (lenW s).1.toNat, (lenW s).2.1 + (lenW s).1, 0)
theorem GetBytes_eq (N : Nat) (s : Str) (hN : 11 ≤ N) (hb : s.length ≤ 1000000) : F_wire_GetBytes N (intsS s) = some (gbytes s) := by
  unfold F_wire_GetBytes gbytes
  rw [length_eq N hN s hb, bd_some]
  rcases lenW_ok s with ⟨e, n, u, h1, h2, h3⟩ | ⟨h1, h2, h3⟩
  · rw [ne_f e, if_false?, if_neg (by rw [e]; simp)]
    have e1 : (lenW s).1 = (n : Int) := by rw [h1]
    have e2 : (lenW s).2.1 = (u : Int) := by rw [h1]
    rw [e1, e2, ck_of (by omega) (by omega), gd_of (by omega), gd_of (by omega), gd_of (by omega), gd_of (by rw [intsS_len]; omega), Int.toNat_natCast, Int.toNat_natCast, show ((u : Int) + (n : Int)).toNat - u = n by omega, ← intsS_drop, ← intsS_take, bytesI_ints]
  · have hne : (lenW s).2.2 ≠ 0 := by omega
    rw [ne_t hne, if_true?, if_pos hne]
theorem gbytes_ok (s : Str) : ((gbytes s).2.2 = 0 ∧ ∃ u : Nat, (gbytes s).2.1 = (u : Int) ∧ 1 ≤ u ∧ u ≤ s.length ∧ (gbytes s).1.length ≤ s.length) ∨ ((gbytes s).1 = [] ∧ (gbytes s).2.1 = 0 ∧ ((gbytes s).2.2 = 10 ∨ (gbytes s).2.2 = 11)) := by
  unfold gbytes
  rcases lenW_ok s with ⟨e, n, u, h1, h2, h3⟩ | ⟨h1, h2, h3⟩
  · rw [if_neg (by rw [e]; simp)]
    refine .inl ⟨rfl, u + n, by rw [h1]; rfl, by omega, by omega, ?_⟩
    show ((s.drop _).take _).length ≤ _
    rw [List.length_take, List.length_drop]; omega
  · rw [if_pos (by omega)]
    exact .inr ⟨rfl, rfl, h3⟩
def getsS : Nat → Str → Int → List Str → List Str × Int × Int
  | 0, _, a, acc => (acc, a, 0)
  | n + 1, r, a, acc => if (gbytes r).2.2 ≠ 0 then ([], 0, (gbytes r).2.2) else getsS n (r.drop (gbytes r).2.1.toNat) (a + (gbytes r).2.1) (acc ++ [(gbytes r).1])
theorem getsS_loop (N : Nat) (hN : 11 ≤ N) (s : Str) (v : Int × Int × Int) (hs : s.length ≤ 1000000) : ∀ (n a b m : Nat) (acc : List Str), v.1 = ((b + n : Nat) : Int) → a ≤ s.length → b + n ≤ 1000000 → acc.length = b → n < m →
    L_wire_get_string_0 N (intsS s) v m (a : Int) (b : Int) acc = some (getsS n (s.drop a) (a : Int) acc)
  | n, a, b, 0, acc, _, _, _, _, h => by omega
  | 0, a, b, m + 1, acc, hv, ha, hb, hacc, _ => by
    rw [L_wire_get_string_0, hv, show decide ((b : Int) < ((b + 0 : Nat) : Int)) = false from decide_eq_false (by omega), if_false?]; rfl
  | n + 1, a, b, m + 1, acc, hv, ha, hb, hacc, hm => by
    rw [L_wire_get_string_0, hv, show decide ((b : Int) < ((b + (n + 1) : Nat) : Int)) = true from decide_eq_true (by omega), if_true?, gd_of (by omega), Int.toNat_natCast, gd_of (by rw [intsS_len]; exact ha), ints_tail, GetBytes_eq N _ hN (by rw [List.length_drop]; omega), bd_some, getsS]
    rcases gbytes_ok (s.drop a) with ⟨e, u, h1, h2, h3, h4⟩ | ⟨h1, h2, h3⟩
    · rw [List.length_drop] at h3
      rw [ne_f e, if_false?, if_neg (by rw [e]; simp), gd_of (by simp only [List.length_cons, List.length_nil]; omega), h1, ck_of (by omega) (by omega), ck_of (by omega) (by omega), show ((a : Int) + (u : Int)) = ((a + u : Nat) : Int) by omega, show ((b : Int) + 1) = ((b + 1 : Nat) : Int) by omega,
        getsS_loop N hN s v hs n (a + u) (b + 1) m _ (by rw [hv]; omega) (by omega) (by omega) (by simp [hacc]) (by omega), Int.toNat_natCast, List.drop_drop]
    · have hne : (gbytes (s.drop a)).2.2 ≠ 0 := by omega
      rw [ne_t hne, if_true?, if_pos hne]
def gstrs (s : Str) : List Str × Int × Int := if (lenW s).2.2 ≠ 0 then ([], 0, (lenW s).2.2) else getsS (lenW s).1.toNat (s.drop (lenW s).2.1.toNat) (lenW s).2.1 []
theorem GetStrings_eq (N : Nat) (s : Str) (hN : 11 ≤ N) (hs : s.length < N) (hb : s.length ≤ 1000000) : F_wire_GetStrings N (intsS s) = some (gstrs s) := by
  unfold F_wire_GetStrings F_wire_get_string gstrs
  rw [length_eq N hN s hb, bd_some]
  rcases lenW_ok s with ⟨e, n, u, h1, h2, h3⟩ | ⟨h1, h2, h3⟩
  · rw [ne_f e, if_false?, if_neg (by rw [e]; simp)]
    have e1 : (lenW s).1 = (n : Int) := by rw [h1]
    have e2 : (lenW s).2.1 = (u : Int) := by rw [h1]
    rw [e2]
    have := getsS_loop N hN s (lenW s) hb n u 0 N [] (by rw [e1]; omega) (by omega) (by omega) rfl (by omega)
    rw [show (((0 : Nat) : Int)) = 0 from rfl] at this
    rw [this, bd_some, e1, Int.toNat_natCast, Int.toNat_natCast]
  · have hne : (lenW s).2.2 ≠ 0 := by omega
    rw [ne_t hne, if_true?, if_pos hne, bd_some]
end Go.Proofs.Tryd
namespace Go.Proofs.Tryd
open Go.Eng

theorem must_t (N : Nat) : F_leaf_must N true = some (some ()) := rfl
theorem must_f (N : Nat) : F_leaf_must N false = some none := rfl
theorem eq_t {a b : Int} (h : a = b) : (a == b) = true := by rw [beq_iff_eq]; exact h
theorem eq_f {a b : Int} (h : a ≠ b) : (a == b) = false := by rw [beq_eq_false_iff_ne]; exact h

theorem getsI_ok : ∀ (n : Nat) (r : Str) (a : Nat) (acc : List Int), (∀ x ∈ acc, I64 x) → ((getsI n r (a : Int) acc).2.2 = 0 ∧ ∃ u : Nat, (getsI n r (a : Int) acc).2.1 = (u : Int) ∧ a ≤ u ∧ u ≤ a + r.length ∧ (getsI n r (a : Int) acc).1.length = acc.length + n ∧ ∀ x ∈ (getsI n r (a : Int) acc).1, I64 x) ∨ ((getsI n r (a : Int) acc).2.2 ≠ 0)
  | 0, r, a, acc, h => .inl ⟨rfl, a, rfl, by omega, by omega, rfl, h⟩
  | n + 1, r, a, acc, h => by
    rw [getsI]
    rcases gi_ok r with ⟨e, u, h1, h2, h3, h4, h5⟩ | ⟨h1, h2, h3⟩
    · rw [if_neg (by rw [e]; simp), h1, show ((a : Int) + (u : Int)) = ((a + u : Nat) : Int) by omega, Int.toNat_natCast]
      rcases getsI_ok n (r.drop u) (a + u) (acc ++ [(gi r).1]) (fun x hx => by
        rcases List.mem_append.1 hx with hx | hx
        · exact h x hx
        · rw [List.mem_singleton.1 hx]; exact h5) with ⟨e', u', g1, g2, g3, g4, g5⟩ | g
      · rw [List.length_drop] at g3
        exact .inl ⟨e', u', g1, by omega, by omega, by rw [g4]; simp; omega, g5⟩
      · exact .inr g
    · have hne : (gi r).2.2 ≠ 0 := by omega
      rw [if_pos hne]; exact .inr hne
theorem gints_ok (s : Str) : ((gints s).2.2 = 0 ∧ ∃ u : Nat, (gints s).2.1 = (u : Int) ∧ u ≤ s.length ∧ (gints s).1.length ≤ s.length ∧ ∀ x ∈ (gints s).1, I64 x) ∨ ((gints s).2.2 ≠ 0) := by
  unfold gints
  rcases lenW_ok s with ⟨e, n, u, h1, h2, h3⟩ | ⟨h1, h2, h3⟩
  · rw [if_neg (by rw [e]; simp)]
    have e1 : (lenW s).1 = (n : Int) := by rw [h1]
    have e2 : (lenW s).2.1 = (u : Int) := by rw [h1]
    rw [e1, e2, Int.toNat_natCast, Int.toNat_natCast]
    rcases getsI_ok n (s.drop u) u [] (fun x hx => by cases hx) with ⟨e', u', g1, g2, g3, g4, g5⟩ | g
    · rw [List.length_drop] at g3
      exact .inl ⟨e', u', g1, by omega, by rw [g4]; simp; omega, g5⟩
    · exact .inr g
  · have hne : (lenW s).2.2 ≠ 0 := by omega
    rw [if_pos hne]; exact .inr hne
theorem getsS_ok : ∀ (n : Nat) (r : Str) (a : Nat) (acc : List Str), ((getsS n r (a : Int) acc).2.2 = 0 ∧ ∃ u : Nat, (getsS n r (a : Int) acc).2.1 = (u : Int) ∧ a ≤ u ∧ u ≤ a + r.length ∧ (getsS n r (a : Int) acc).1.length = acc.length + n ∧ ∀ b : Nat, r.length ≤ b → (∀ x ∈ acc, x.length ≤ b) → ∀ x ∈ (getsS n r (a : Int) acc).1, x.length ≤ b) ∨ ((getsS n r (a : Int) acc).2.2 ≠ 0)
  | 0, r, a, acc => .inl ⟨rfl, a, rfl, by omega, by omega, rfl, fun _ _ h => h⟩
  | n + 1, r, a, acc => by
    rw [getsS]
    rcases gbytes_ok r with ⟨e, u, h1, h2, h3, h4⟩ | ⟨h1, h2, h3⟩
    · rw [if_neg (by rw [e]; simp), h1, show ((a : Int) + (u : Int)) = ((a + u : Nat) : Int) by omega, Int.toNat_natCast]
      rcases getsS_ok n (r.drop u) (a + u) (acc ++ [(gbytes r).1]) with ⟨e', u', g1, g2, g3, g4, g5⟩ | g
      · rw [List.length_drop] at g3
        refine .inl ⟨e', u', g1, by omega, by omega, by rw [g4]; simp; omega, fun b hb hx => g5 b (by rw [List.length_drop]; omega) fun x hx' => ?_⟩
        rcases List.mem_append.1 hx' with hx' | hx'
        · exact hx x hx'
        · rw [List.mem_singleton.1 hx']; omega
      · exact .inr g
    · have hne : (gbytes r).2.2 ≠ 0 := by omega
      rw [if_pos hne]; exact .inr hne
theorem gstrs_ok (s : Str) : ((gstrs s).2.2 = 0 ∧ ∃ u : Nat, (gstrs s).2.1 = (u : Int) ∧ u ≤ s.length ∧ (gstrs s).1.length ≤ s.length ∧ ∀ x ∈ (gstrs s).1, x.length ≤ s.length) ∨ ((gstrs s).2.2 ≠ 0) := by
  unfold gstrs
  rcases lenW_ok s with ⟨e, n, u, h1, h2, h3⟩ | ⟨h1, h2, h3⟩
  · rw [if_neg (by rw [e]; simp)]
    have e1 : (lenW s).1 = (n : Int) := by rw [h1]
    have e2 : (lenW s).2.1 = (u : Int) := by rw [h1]
    rw [e1, e2, Int.toNat_natCast, Int.toNat_natCast]
    rcases getsS_ok n (s.drop u) u [] with ⟨e', u', g1, g2, g3, g4, g5⟩ | g
    · rw [List.length_drop] at g3
      exact .inl ⟨e', u', g1, by omega, by rw [g4]; simp; omega, g5 s.length (by rw [List.length_drop]; omega) fun x hx => by cases hx⟩
    · exact .inr g
  · have hne : (lenW s).2.2 ≠ 0 := by omega
    rw [if_pos hne]; exact .inr hne

def hd (s : Str) (k : Int) (c : Nat) (more : Bool) : Option (List Int × List Str) :=
  if (gints s).2.2 = 0 ∧ (gints s).1.length = c ∧ (gints s).1.getD 0 0 = k then
    if more = true then
      if (gstrs (s.drop (gints s).2.1.toNat)).2.2 = 0 ∧ (gints s).2.1 + (gstrs (s.drop (gints s).2.1.toNat)).2.1 = (s.length : Int) then some ((gints s).1, (gstrs (s.drop (gints s).2.1.toNat)).1) else none
    else if (gints s).2.1 = (s.length : Int) then some ((gints s).1, []) else none
  else none
theorem get_D {α β : Type} {l : List α} {i : Nat} {d : α} {f : α → Option β} (h : i < l.length) : get? l (i : Int) f = f (l.getD i d) := by
  rw [get_of h, List.getD_eq_getElem?_getD, List.getElem?_eq_getElem h]; rfl
theorem str_tail (s : Str) (a : Nat) : (s.drop a).take (s.length - a) = s.drop a := List.take_of_length_le (by rw [List.length_drop]; exact Nat.le_refl _)
theorem head_eq (N : Nat) (s : Str) (k : Int) (c : Nat) (more : Bool) (hN : 11 ≤ N) (hs : s.length < N) (hb : s.length ≤ 1000000) (hc : 1 ≤ c) : F_leaf_head N s k (c : Int) more = some (hd s k c more) := by
  unfold F_leaf_head hd
  rw [GetInts_eq N s hN hs hb, bd_some]
  rcases gints_ok s with ⟨e, u, h1, h2, h3, h4⟩ | h
  · rw [eq_t e, if_true?]
    by_cases hl : (gints s).1.length = c
    · rw [eq_t (show ((gints s).1.length : Int) = (c : Int) by omega), if_true?, show (0 : Int) = ((0 : Nat) : Int) from rfl, get_D (d := 0) (by omega)]
      by_cases hk : (gints s).1.getD 0 0 = k
      · rw [eq_t hk, must_t, bdp_some, if_pos ⟨e, hl, hk⟩]
        cases more with
        | true =>
          rw [if_true?, if_pos rfl, h1, Int.toNat_natCast, gd_of (by omega), gd_of h2, str_tail, GetStrings_eq N _ hN (by rw [List.length_drop]; omega) (by rw [List.length_drop]; omega), bd_some]
          rcases gstrs_ok (s.drop u) with ⟨e', u', g1, g2, g3, g4⟩ | g
          · rw [List.length_drop] at g2
            rw [show (((gstrs (s.drop u)).2.2 == ((0 : Nat) : Int))) = true from eq_t e', if_true?, g1, ck_of (by omega) (by omega)]
            by_cases hh : (u : Int) + (u' : Int) = (s.length : Int)
            · rw [eq_t hh, must_t, bdp_some, if_pos ⟨e', hh⟩]
            · rw [eq_f hh, must_f, bdp_none, if_neg (fun q => hh q.2)]
          · rw [show (((gstrs (s.drop u)).2.2 == ((0 : Nat) : Int))) = false from eq_f g, if_false?, must_f, bdp_none, if_neg (fun q => g q.1)]
        | false =>
          rw [if_false?, if_neg (by decide)]
          by_cases hh : (gints s).2.1 = (s.length : Int)
          · rw [eq_t hh, must_t, bdp_some, if_pos hh]
          · rw [eq_f hh, must_f, bdp_none, if_neg hh]
      · rw [eq_f hk, must_f, bdp_none, if_neg (fun q => hk q.2.2)]
    · rw [eq_f (show ((gints s).1.length : Int) ≠ (c : Int) by omega), if_false?, must_f, bdp_none, if_neg (fun q => hl q.2.1)]
  · rw [eq_f h, if_false?, must_f, bdp_none, if_neg (fun q => h q.1)]
theorem hd_ok {s : Str} {k : Int} {c : Nat} {more : Bool} {v : List Int × List Str} (h : hd s k c more = some v) : v.1.length = c ∧ (∀ x ∈ v.1, I64 x) ∧ v.2.length ≤ s.length ∧ ∀ x ∈ v.2, x.length ≤ s.length := by
  unfold hd at h
  split at h
  · rename_i hh
    obtain ⟨e, hl, hk⟩ := hh
    rcases gints_ok s with ⟨_, u, h1, h2, h3, h4⟩ | g
    · split at h
      · split at h
        · rename_i hh
          cases h
          rcases gstrs_ok (s.drop (gints s).2.1.toNat) with ⟨_, u', g1, g2, g3, g4⟩ | g
          · rw [List.length_drop] at g3 g4
            exact ⟨hl, h4, Nat.le_trans g3 (Nat.sub_le _ _), fun x hx => Nat.le_trans (g4 x hx) (Nat.sub_le _ _)⟩
          · exact absurd hh.1 g
        · cases h
      · split at h
        · cases h
          exact ⟨hl, h4, by simp, fun x hx => by cases hx⟩
        · cases h
    · exact absurd e g
  · cases h

def grd (s : Str) : Reading × Int :=
  match hd s 1 7 false with
  | none => (Reading.mk 0 0 0 0 0 0, 11)
  | some v => (Reading.mk (v.1.getD 1 0) (v.1.getD 2 0) (v.1.getD 3 0) (v.1.getD 4 0) (v.1.getD 5 0) (v.1.getD 6 0), 0)
theorem GetReading_eq (N : Nat) (s : Str) (hN : 11 ≤ N) (hs : s.length < N) (hb : s.length ≤ 1000000) : F_leaf_GetReading N s = some (grd s) := by
  unfold F_leaf_GetReading grd
  rw [show (7 : Int) = ((7 : Nat) : Int) from rfl, head_eq N s 1 7 false hN hs hb (by omega)]
  cases h : hd s 1 7 false with
  | none => rw [bdp_none]
  | some v =>
    have hl := (hd_ok h).1
    rw [bdp_some, show (1 : Int) = ((1 : Nat) : Int) from rfl, get_D (d := 0) (by omega), show (2 : Int) = ((2 : Nat) : Int) from rfl, get_D (d := 0) (by omega), show (3 : Int) = ((3 : Nat) : Int) from rfl, get_D (d := 0) (by omega), show (4 : Int) = ((4 : Nat) : Int) from rfl, get_D (d := 0) (by omega), show (5 : Int) = ((5 : Nat) : Int) from rfl, get_D (d := 0) (by omega), show (6 : Int) = ((6 : Nat) : Int) from rfl, get_D (d := 0) (by omega)]
theorem getD_I64 {l : List Int} (h : ∀ x ∈ l, I64 x) (i : Nat) : I64 (l.getD i 0) := by
  rw [List.getD_eq_getElem?_getD]
  cases e : l[i]? with
  | none => exact ⟨by decide, by decide⟩
  | some x => exact h x (List.mem_of_getElem? e)
theorem grd_ok (s : Str) : I64 (grd s).1.Gauge ∧ I64 (grd s).1.From ∧ ((grd s).2 = 0 ∨ (grd s).2 = 11) := by
  unfold grd
  cases h : hd s 1 7 false with
  | none => exact ⟨⟨by decide, by decide⟩, ⟨by decide, by decide⟩, .inr rfl⟩
  | some v => exact ⟨getD_I64 (hd_ok h).2.1 1, getD_I64 (hd_ok h).2.1 3, .inl rfl⟩
end Go.Proofs.Tryd
namespace Go.Proofs.Tryd
open Go.Eng

def one (s : Str) : Option Int := if (gi s).2.2 = 0 ∧ (gi s).2.1 = (s.length : Int) then some (gi s).1 else none
theorem one_eq (N : Nat) (hN : 11 ≤ N) (s : Str) : F_leaf_one N s = some (one s) := by
  unfold F_leaf_one one
  rw [GetInt_eq N hN, bd_some]
  by_cases e : (gi s).2.2 = 0
  · rw [eq_t e, if_true?]
    by_cases hh : (gi s).2.1 = (s.length : Int)
    · rw [eq_t hh, must_t, bdp_some, if_pos ⟨e, hh⟩]
    · rw [eq_f hh, must_f, bdp_none, if_neg (fun q => hh q.2)]
  · rw [eq_f e, if_false?, must_f, bdp_none, if_neg (fun q => e q.1)]

def pts : List Str → List Point → Option (List Point)
  | a :: b :: c :: d :: r, acc => match one a, one b with
    | some st, some ng => if ng = 0 ∨ ng = 1 then pts r (acc ++ [Point.mk st (Rat.mk (ng == 1) c d)]) else none
    | _, _ => none
  | _, acc => some acc
def gvr (s : Str) : Version × Int :=
  match hd s 2 8 true with
  | none => (Version.mk 0 0 0 0 0 0 0 (Curve.mk []), 11)
  | some v => if v.2.length % 4 = 0 then
      match pts v.2 [] with
      | none => (Version.mk 0 0 0 0 0 0 0 (Curve.mk []), 11)
      | some l => (Version.mk (v.1.getD 1 0) (v.1.getD 2 0) (v.1.getD 3 0) (v.1.getD 4 0) (v.1.getD 5 0) (v.1.getD 6 0) (v.1.getD 7 0) (Curve.mk l), 0)
    else (Version.mk 0 0 0 0 0 0 0 (Curve.mk []), 11)
theorem ver_loop (N : Nat) (hN : 11 ≤ N) (v : List Int × List Str) (hv : v.1.length = 8) : ∀ (k m : Nat) (l : List Str) (acc : List Point), l.length = 4 * k → k < m → acc.length + k ≤ 1000000 →
    L_leaf_GetVersion_0 N v m l acc = some (match pts l acc with
      | none => (Version.mk 0 0 0 0 0 0 0 (Curve.mk []), 11)
      | some l => (Version.mk (v.1.getD 1 0) (v.1.getD 2 0) (v.1.getD 3 0) (v.1.getD 4 0) (v.1.getD 5 0) (v.1.getD 6 0) (v.1.getD 7 0) (Curve.mk l), 0))
  | k, 0, l, acc, _, h, _ => by omega
  | 0, m + 1, l, acc, hl, _, _ => by
    have : l = [] := List.length_eq_zero_iff.1 (by omega)
    subst this
    rw [L_leaf_GetVersion_0]
    show if? false _ _ = _
    rw [if_false?, show (1 : Int) = ((1 : Nat) : Int) from rfl, get_D (d := 0) (by omega), show (2 : Int) = ((2 : Nat) : Int) from rfl, get_D (d := 0) (by omega), show (3 : Int) = ((3 : Nat) : Int) from rfl, get_D (d := 0) (by omega), show (4 : Int) = ((4 : Nat) : Int) from rfl, get_D (d := 0) (by omega), show (5 : Int) = ((5 : Nat) : Int) from rfl, get_D (d := 0) (by omega), show (6 : Int) = ((6 : Nat) : Int) from rfl, get_D (d := 0) (by omega), show (7 : Int) = ((7 : Nat) : Int) from rfl, get_D (d := 0) (by omega)]
    rfl
  | k + 1, m + 1, l, acc, hl, hm, hb => by
    obtain ⟨a, b, c, d, r, rfl⟩ : ∃ a b c d r, l = a :: b :: c :: d :: r := by
      match l, hl with
      | a :: b :: c :: d :: r, _ => exact ⟨a, b, c, d, r, rfl⟩
      | [], h => simp at h
      | [_], h => simp at h; omega
      | [_, _], h => simp at h; omega
      | [_, _, _], h => simp at h; omega
    have hr : r.length = 4 * k := by simp only [List.length_cons] at hl; omega
    have e4 : ((a :: b :: c :: d :: r).drop (4 : Int).toNat).take ((a :: b :: c :: d :: r).length - (4 : Int).toNat) = r := by
      show r.take (r.length + 4 - 4) = r
      rw [Nat.add_sub_cancel, List.take_length]
    rw [L_leaf_GetVersion_0, show decide (((a :: b :: c :: d :: r).length : Int) > 0) = true from decide_eq_true (by simp only [List.length_cons]; omega), if_true?]
    show bdp? (F_leaf_one N a) _ (fun v7 => bdp? (F_leaf_one N b) _ _) = _
    rw [one_eq N hN, one_eq N hN, pts]
    cases ha : one a with
    | none => rfl
    | some st =>
      rw [bdp_some]
      cases hb2 : one b with
      | none => rfl
      | some ng =>
        rw [bdp_some]
        have fin : ∀ x : Bool, x = (ng == 1) → (gd? ((acc.length + [Point.mk st (Rat.mk x c d)].length) * 48 ≤ 140737488355328) (gd? ((4 : Int).toNat ≤ (a :: b :: c :: d :: r).length) (L_leaf_GetVersion_0 N v m (((a :: b :: c :: d :: r).drop (4 : Int).toNat).take ((a :: b :: c :: d :: r).length - (4 : Int).toNat)) (acc ++ [Point.mk st (Rat.mk x c d)])))) = L_leaf_GetVersion_0 N v m r (acc ++ [Point.mk st (Rat.mk (ng == 1) c d)]) := fun x hx => by
          subst hx
          rw [gd_of (by simp only [List.length_cons, List.length_nil]; omega), gd_of (by simp only [List.length_cons]; show 4 ≤ _; omega), e4]
        have ih := ver_loop N hN v hv k m r (acc ++ [Point.mk st (Rat.mk (ng == 1) c d)]) hr (by omega) (by simp only [List.length_append, List.length_cons, List.length_nil]; omega)
        by_cases h1 : ng = 0
        · rw [eq_t h1, if_true?, must_t, bdp_some]
          refine (fin _ rfl).trans (ih.trans ?_)
          simp only [h1, true_or, if_true]
        · rw [eq_f h1, if_false?]
          by_cases h2 : ng = 1
          · rw [eq_t h2, must_t, bdp_some]
            refine (fin _ (eq_t h2).symm).trans (ih.trans ?_)
            simp only [if_pos (Or.inr h2 : ng = 0 ∨ ng = 1)]
          · rw [eq_f h2, must_f, bdp_none]
            simp only [h1, h2, or_self, if_false]
theorem GetVersion_eq (N : Nat) (s : Str) (hN : 11 ≤ N) (hs : s.length + 1 < N) (hb : s.length ≤ 100000) : F_leaf_GetVersion N s = some (gvr s) := by
  unfold F_leaf_GetVersion gvr
  rw [show (8 : Int) = ((8 : Nat) : Int) from rfl, head_eq N s 2 8 true hN (by omega) (by omega) (by omega)]
  cases h : hd s 2 8 true with
  | none => rw [bdp_none]
  | some v =>
    obtain ⟨hl, _, hp, _⟩ := hd_ok h
    rw [bdp_some]
    by_cases h1 : v.2.length % 4 = 0
    · have : Int.tmod (v.2.length : Int) 4 = 0 := by rw [show (4 : Int) = ((4 : Nat) : Int) from rfl, ← Int.ofNat_tmod, h1]; rfl
      rw [eq_t this, must_t, bdp_some, ver_loop N hN v hl (v.2.length / 4) N v.2 [] (by omega) (by omega) (by simp; omega)]
      simp only [h1, if_true]
    · have : Int.tmod (v.2.length : Int) 4 ≠ 0 := by rw [show (4 : Int) = ((4 : Nat) : Int) from rfl, ← Int.ofNat_tmod]; omega
      rw [eq_f this, must_f, bdp_none]
      simp only [h1, if_false]
theorem gvr_ok (s : Str) : I64 (gvr s).1.Gauge ∧ I64 (gvr s).1.From ∧ ((gvr s).2 = 0 ∨ (gvr s).2 = 11) := by
  unfold gvr
  cases h : hd s 2 8 true with
  | none => exact ⟨⟨by decide, by decide⟩, ⟨by decide, by decide⟩, .inr rfl⟩
  | some v =>
    simp only
    split
    · split
      · exact ⟨⟨by decide, by decide⟩, ⟨by decide, by decide⟩, .inr rfl⟩
      · exact ⟨getD_I64 (hd_ok h).2.1 2, getD_I64 (hd_ok h).2.1 5, .inl rfl⟩
    · exact ⟨⟨by decide, by decide⟩, ⟨by decide, by decide⟩, .inr rfl⟩

def tbl : List Int → List Hold → List Hold
  | a :: b :: r, acc => tbl r (acc ++ [Hold.mk a b])
  | _, acc => acc
def runs : List Str → List Run → Option (List Run)
  | [], acc => some acc
  | p :: r, acc => if (gints p).2.2 = 0 ∧ (gints p).2.1 = (p.length : Int) ∧ 4 ≤ (gints p).1.length ∧ (gints p).1.length % 2 = 0 then
      runs r (acc ++ [Run.mk ((gints p).1.getD 0 0) ((gints p).1.getD 1 0) (tbl ((gints p).1.drop 4) []) ((gints p).1.getD 2 0) ((gints p).1.getD 3 0)]) else none
def gbl (s : Str) : Block × Int :=
  match hd s 3 6 true with
  | none => (Block.mk 0 0 0 0 0 [], 11)
  | some v => match runs v.2 [] with
    | none => (Block.mk 0 0 0 0 0 [], 11)
    | some l => (Block.mk (v.1.getD 1 0) (v.1.getD 2 0) (v.1.getD 3 0) (v.1.getD 4 0) (v.1.getD 5 0) l, 0)
theorem tbl_loop (N : Nat) (k0 : Int → Int → Int → Int → Int → Int → Int → List Run → Option (Block × Int)) (a2 a3 a4 a5 a6 a7 a8 : Int) (a9 : List Run) (x13 x14 x15 x16 : Int) (h1 : 0 ≤ a2 ∧ a2 ≤ 1000000) (h2 : a9.length ≤ 1000000) :
    ∀ (k m : Nat) (l : List Int) (acc : List Hold), l.length = 2 * k → k < m → acc.length + k ≤ 1000000 →
    L_leaf_GetBlock_1 N k0 a2 a3 a4 a5 a6 a7 a8 a9 x13 x14 x15 x16 m l acc = k0 (a2 + 1) a3 a4 a5 a6 a7 a8 (a9 ++ [Run.mk x13 x14 (tbl l acc) x15 x16])
  | k, 0, l, acc, _, h, _ => by omega
  | 0, m + 1, l, acc, hl, _, _ => by
    have : l = [] := List.length_eq_zero_iff.1 (by omega)
    subst this
    rw [L_leaf_GetBlock_1]
    show if? false _ _ = _
    rw [if_false?, gd_of (by simp only [List.length_cons, List.length_nil]; omega), ck_of (by omega) (by omega)]
    rfl
  | k + 1, m + 1, l, acc, hl, hm, hb => by
    obtain ⟨a, b, r, rfl⟩ : ∃ a b r, l = a :: b :: r := by
      match l, hl with
      | a :: b :: r, _ => exact ⟨a, b, r, rfl⟩
      | [], h => simp at h
      | [_], h => simp at h; omega
    have e2 : ((a :: b :: r).drop (2 : Int).toNat).take ((a :: b :: r).length - (2 : Int).toNat) = r := by
      show r.take (r.length + 2 - 2) = r
      rw [Nat.add_sub_cancel, List.take_length]
    rw [L_leaf_GetBlock_1, show decide (((a :: b :: r).length : Int) > 0) = true from decide_eq_true (by simp only [List.length_cons]; omega), if_true?]
    show gd? ((acc.length + [Hold.mk a b].length) * 16 ≤ 140737488355328) _ = _
    rw [gd_of (by simp only [List.length_cons, List.length_nil]; omega), gd_of (by simp only [List.length_cons]; show 2 ≤ _; omega), e2, tbl_loop N k0 a2 a3 a4 a5 a6 a7 a8 a9 x13 x14 x15 x16 h1 h2 k m r _ (by simp only [List.length_cons] at hl; omega) (by omega) (by simp only [List.length_append, List.length_cons, List.length_nil]; omega)]
    rfl
theorem run_loop (N : Nat) (hN : 11 ≤ N) (v : List Int × List Str) (hv : v.1.length = 6) (hp : ∀ x ∈ v.2, x.length + 1 < N ∧ x.length ≤ 100000) (hb : v.2.length ≤ 100000) (z : Int) : ∀ (k i m : Nat) (acc : List Run), i + k = v.2.length → k < m → acc.length = i →
    L_leaf_GetBlock_0 N v m (i : Int) 0 0 0 0 0 z acc = some (match runs (v.2.drop i) acc with
      | none => (Block.mk 0 0 0 0 0 [], 11)
      | some l => (Block.mk (v.1.getD 1 0) (v.1.getD 2 0) (v.1.getD 3 0) (v.1.getD 4 0) (v.1.getD 5 0) l, 0))
  | k, i, 0, acc, _, h, _ => by omega
  | 0, i, m + 1, acc, hi, _, _ => by
    rw [L_leaf_GetBlock_0, show decide ((i : Int) < (v.2.length : Int)) = false from decide_eq_false (by omega), if_false?, List.drop_of_length_le (by omega), show (1 : Int) = ((1 : Nat) : Int) from rfl, get_D (d := 0) (by omega), show (2 : Int) = ((2 : Nat) : Int) from rfl, get_D (d := 0) (by omega), show (3 : Int) = ((3 : Nat) : Int) from rfl, get_D (d := 0) (by omega), show (4 : Int) = ((4 : Nat) : Int) from rfl, get_D (d := 0) (by omega), show (5 : Int) = ((5 : Nat) : Int) from rfl, get_D (d := 0) (by omega)]
    rfl
  | k + 1, i, m + 1, acc, hi, hm, ha => by
    have hlt : i < v.2.length := by omega
    obtain ⟨hx1, hx2⟩ := hp _ (List.getElem_mem hlt)
    rw [L_leaf_GetBlock_0, show decide ((i : Int) < (v.2.length : Int)) = true from decide_eq_true (by omega), if_true?, get_of hlt, GetInts_eq N _ hN (by omega) (by omega), bd_some, List.drop_eq_getElem_cons hlt, runs]
    generalize hp0 : v.2[i] = p at *
    rcases gints_ok p with ⟨e, u, h1, h2, h3, h4⟩ | h
    · rw [eq_t e, if_true?]
      by_cases hu : (gints p).2.1 = (p.length : Int)
      · rw [eq_t hu, if_true?]
        by_cases hl : 4 ≤ (gints p).1.length
        · rw [show decide (((gints p).1.length : Int) ≥ 4) = true from decide_eq_true (by omega), if_true?]
          by_cases h2 : (gints p).1.length % 2 = 0
          · have : Int.tmod ((gints p).1.length : Int) 2 = 0 := by rw [show (2 : Int) = ((2 : Nat) : Int) from rfl, ← Int.ofNat_tmod, h2]; rfl
            rw [eq_t this, must_t, bdp_some, if_pos ⟨e, hu, hl, h2⟩, show get? (gints p).1 0 = get? (gints p).1 ((0 : Nat) : Int) from rfl, get_D (d := 0) (by omega), show (1 : Int) = ((1 : Nat) : Int) from rfl, get_D (d := 0) (by omega), show (2 : Int) = ((2 : Nat) : Int) from rfl, get_D (d := 0) (by omega), show (3 : Int) = ((3 : Nat) : Int) from rfl, get_D (d := 0) (by omega), gd_of (by show 4 ≤ _; omega)]
            rw [show (((gints p).1.drop (4 : Int).toNat).take ((gints p).1.length - (4 : Int).toNat)) = (gints p).1.drop 4 from List.take_of_length_le (by rw [List.length_drop]; exact Nat.le_refl _)]
            rw [tbl_loop N _ _ _ _ _ _ _ _ _ _ _ _ _ (by omega) (by omega) (((gints p).1.length - 4) / 2) N _ _ (by rw [List.length_drop]; omega) (by omega) (by simp; omega)]
            exact run_loop N hN v hv hp hb z k (i + 1) m _ (by omega) (by omega) (by simp [ha])
          · have : Int.tmod ((gints p).1.length : Int) 2 ≠ 0 := by rw [show (2 : Int) = ((2 : Nat) : Int) from rfl, ← Int.ofNat_tmod]; omega
            rw [eq_f this, must_f, bdp_none, if_neg (fun q => h2 q.2.2.2)]
        · rw [show decide (((gints p).1.length : Int) ≥ 4) = false from decide_eq_false (by omega), if_false?, must_f, bdp_none, if_neg (fun q => hl q.2.2.1)]
      · rw [eq_f hu, if_false?, must_f, bdp_none, if_neg (fun q => hu q.2.1)]
    · rw [eq_f h, if_false?, must_f, bdp_none, if_neg (fun q => h q.1)]
theorem GetBlock_eq (N : Nat) (s : Str) (hN : 11 ≤ N) (hs : s.length + 1 < N) (hb : s.length ≤ 100000) : F_leaf_GetBlock N s = some (gbl s) := by
  unfold F_leaf_GetBlock gbl
  rw [show (6 : Int) = ((6 : Nat) : Int) from rfl, head_eq N s 3 6 true hN (by omega) (by omega) (by omega)]
  cases h : hd s 3 6 true with
  | none => rw [bdp_none]
  | some v =>
    obtain ⟨hl, _, hp, hq⟩ := hd_ok h
    rw [bdp_some]
    exact run_loop N hN v hl (fun x hx => by have := hq x hx; omega) (by omega) 0 v.2.length 0 N [] (by omega) (by omega) rfl
theorem gbl_ok (s : Str) : I64 (gbl s).1.Gauge ∧ I64 (gbl s).1.From ∧ ((gbl s).2 = 0 ∨ (gbl s).2 = 11) := by
  unfold gbl
  cases h : hd s 3 6 true with
  | none => exact ⟨⟨by decide, by decide⟩, ⟨by decide, by decide⟩, .inr rfl⟩
  | some v =>
    simp only
    split
    · exact ⟨⟨by decide, by decide⟩, ⟨by decide, by decide⟩, .inr rfl⟩
    · exact ⟨getD_I64 (hd_ok h).2.1 1, getD_I64 (hd_ok h).2.1 3, .inl rfl⟩
end Go.Proofs.Tryd
namespace Go.Proofs.Tryd
open Go.Eng

theorem leap_ex (N : Nat) (y : Int) : ∃ b, F_calendar_Leap N y = some b := by
  unfold F_calendar_Leap
  cases (Int.tmod y 4 == 0) with
  | false => exact ⟨_, rfl⟩
  | true => cases (Int.tmod y 100 != 0) <;> exact ⟨_, rfl⟩
def ln (b : Bool) (m : Nat) : Nat := if m = 2 then (if b then 29 else 28) else if m = 4 ∨ m = 6 ∨ m = 9 ∨ m = 11 then 30 else 31
theorem length_ex (N : Nat) (y : Int) (b : Bool) (hb : F_calendar_Leap N y = some b) (m : Nat) (h1 : 1 ≤ m) (h2 : m ≤ 12) : F_calendar_length N y (m : Int) = some (ln b m : Int) := by
  unfold F_calendar_length
  rw [hb]
  obtain rfl | rfl | rfl | rfl | rfl | rfl | rfl | rfl | rfl | rfl | rfl | rfl : m = 1 ∨ m = 2 ∨ m = 3 ∨ m = 4 ∨ m = 5 ∨ m = 6 ∨ m = 7 ∨ m = 8 ∨ m = 9 ∨ m = 10 ∨ m = 11 ∨ m = 12 := by omega
  all_goals (cases b <;> rfl)
def rest (b : Bool) : Nat → Nat
  | 0 => 0
  | k + 1 => ln b (12 - k) + rest b k
theorem date1_ex (N : Nat) (y : Int) (b : Bool) (hb : F_calendar_Leap N y = some b) : ∀ (k m a : Nat), k ≤ 12 → 1 ≤ k → k < m → a < rest b k → ∃ r : Int × Int × Int × Int, L_calendar_Date_1 N y m (a : Int) ((13 - k : Nat) : Int) = some r
  | k, 0, a, _, _, h, _ => by omega
  | 0, m + 1, a, _, h, _, _ => by omega
  | k + 1, m + 1, a, hk, _, hm, ha => by
    rw [L_calendar_Date_1, show 13 - (k + 1) = 12 - k by omega, length_ex N y b hb (12 - k) (by omega) (by omega), bd_some]
    have hl : ln b (12 - k) ≤ 31 := by unfold ln; split <;> (try split) <;> omega
    have hr : rest b (k + 1) = ln b (12 - k) + rest b k := rfl
    have hrest : ∀ j, rest b j ≤ 31 * j := fun j => by
      induction j with
      | zero => exact Nat.le_refl _
      | succ j ih =>
        have : rest b (j + 1) = ln b (12 - j) + rest b j := rfl
        have h : ln b (12 - j) ≤ 31 := by unfold ln; split <;> (try split) <;> omega
        omega
    have := hrest k
    by_cases h : ln b (12 - k) ≤ a
    · rw [show decide ((a : Int) ≥ (ln b (12 - k) : Int)) = true from decide_eq_true (by omega), if_true?, bd_some, ck_of (by omega) (by omega), ck_of (by omega) (by omega), show (a : Int) - (ln b (12 - k) : Int) = ((a - ln b (12 - k) : Nat) : Int) by omega, show ((12 - k : Nat) : Int) + 1 = ((13 - k : Nat) : Int) by omega]
      by_cases hk0 : k = 0
      · subst hk0
        have : rest b 0 = 0 := rfl
        omega
      · exact date1_ex N y b hb k m (a - ln b (12 - k)) (by omega) (by omega) (by omega) (by omega)
    · rw [show decide ((a : Int) ≥ (ln b (12 - k) : Int)) = false from decide_eq_false (by omega), if_false?, ck_of (by omega) (by omega)]
      exact ⟨_, rfl⟩
theorem date0_ex (N : Nat) (hN : 100 ≤ N) : ∀ (k m a : Nat) (y : Int), a ≤ 365 * k → k < m → 0 ≤ y ∧ y + (k : Int) ≤ 100000 → ∃ r : Int × Int × Int × Int, L_calendar_Date_0 N m (a : Int) y = some r := by
  intro k
  induction k with
  | zero =>
    intro m a y ha hm hy
    obtain ⟨m, rfl⟩ : ∃ m', m = m' + 1 := ⟨m - 1, by omega⟩
    obtain ⟨b, hb⟩ := leap_ex N y
    have hd : F_calendar_days N y = some (rest b 12 : Int) := by
      unfold F_calendar_days
      rw [hb, bd_some]
      cases b <;> rfl
    have : rest b 12 ≥ 365 := by cases b <;> decide
    rw [L_calendar_Date_0, hd, bd_some, show decide ((a : Int) ≥ (rest b 12 : Int)) = false from decide_eq_false (by omega), if_false?]
    exact date1_ex N y b hb 12 N a (by omega) (by omega) (by omega) (by omega)
  | succ k ih =>
    intro m a y ha hm hy
    obtain ⟨m, rfl⟩ : ∃ m', m = m' + 1 := ⟨m - 1, by omega⟩
    obtain ⟨b, hb⟩ := leap_ex N y
    have hd : F_calendar_days N y = some (rest b 12 : Int) := by
      unfold F_calendar_days
      rw [hb, bd_some]
      cases b <;> rfl
    have h1 : rest b 12 ≥ 365 ∧ rest b 12 ≤ 366 := by cases b <;> decide
    rw [L_calendar_Date_0, hd, bd_some]
    by_cases h : rest b 12 ≤ a
    · rw [show decide ((a : Int) ≥ (rest b 12 : Int)) = true from decide_eq_true (by omega), if_true?, bd_some]
      by_cases hbig : a ≤ 9223372036854775807
      · rw [ck_of (by omega) (by omega), ck_of (by omega) (by omega), show (a : Int) - (rest b 12 : Int) = ((a - rest b 12 : Nat) : Int) by omega]
        exact ih m (a - rest b 12) (y + 1) (by omega) (by omega) (by omega)
      · omega
    · rw [show decide ((a : Int) ≥ (rest b 12 : Int)) = false from decide_eq_false (by omega), if_false?]
      exact date1_ex N y b hb 12 N a (by omega) (by omega) (by omega) (by omega)
theorem Date_ex (N : Nat) (hN : 100 ≤ N) (a : Nat) (h : a ≤ 14609) : ∃ r : Int × Int × Int × Int, F_calendar_Date N (a : Int) = some r := by
  unfold F_calendar_Date
  rw [show decide ((a : Int) < 0) = false from decide_eq_false (by omega), if_false?, show decide ((a : Int) > 14609) = false from decide_eq_false (by omega), if_false?]
  exact date0_ex N hN 41 N a 2000 (by omega) (by omega) (by omega)
end Go.Proofs.Tryd
namespace Go.Proofs.Tryd
open Go.Eng

theorem place_ex (N : Nat) (hN : 100 ≤ N) (g f : Int) (hf : I64 f) : ∃ r : Int × Int × Int, (if? (decide (g < 0)) (some ((0 : Int), (0 : Int), (3 : Int))) (if? (decide (g ≥ 40)) (some (0, 0, 3)) (if? (decide (f < 0)) (some (0, 0, 3)) (if? (decide (f ≥ 1402560)) (some (0, 0, 3)) (ck .i64 (Int.tdiv f 96) (bd? (F_calendar_Date N (Int.tdiv f 96)) fun v => some (g, v.1, 0))))))) = some r := by
  by_cases h1 : g < 0
  · rw [decide_eq_true h1, if_true?]; exact ⟨_, rfl⟩
  · rw [decide_eq_false h1, if_false?]
    by_cases h2 : g ≥ 40
    · rw [decide_eq_true h2, if_true?]; exact ⟨_, rfl⟩
    · rw [decide_eq_false h2, if_false?]
      by_cases h3 : f < 0
      · rw [decide_eq_true h3, if_true?]; exact ⟨_, rfl⟩
      · rw [decide_eq_false h3, if_false?]
        by_cases h4 : f ≥ 1402560
        · rw [decide_eq_true h4, if_true?]; exact ⟨_, rfl⟩
        · rw [decide_eq_false h4, if_false?]
          obtain ⟨n, rfl⟩ : ∃ n : Nat, f = (n : Int) := ⟨f.toNat, by omega⟩
          have e : Int.tdiv (n : Int) 96 = ((n / 96 : Nat) : Int) := (Int.ofNat_tdiv n 96).symm
          obtain ⟨r, hr⟩ := Date_ex N hN (n / 96) (by omega)
          rw [e, ck_of (by omega) (by omega), hr, bd_some]
          exact ⟨_, rfl⟩
theorem Where_ex (N : Nat) (hN : 100 ≤ N) (s : Str) (hs : s.length + 1 < N) (hb : s.length ≤ 100000) : ∃ r, F_leaf_Where N s = some r := by
  unfold F_leaf_Where F_leaf_kinds F_leaf_kinds_1 F_leaf_kinds_2 F_leaf_kinds_3
  rw [bd_some, GetReading_eq N s (by omega) (by omega) (by omega), bd_some, bd_some]
  cases h1 : ((grd s).2 != 0) with
  | false => rw [if_false?]; exact place_ex N hN _ _ (grd_ok s).2.1
  | true =>
    rw [if_true?, GetVersion_eq N s (by omega) hs hb, bd_some, bd_some]
    cases h2 : ((gvr s).2 != 0) with
    | false => rw [if_false?]; exact place_ex N hN _ _ (gvr_ok s).2.1
    | true =>
      rw [if_true?, GetBlock_eq N s (by omega) hs hb, bd_some, bd_some]
      cases h3 : ((gbl s).2 != 0) with
      | false => rw [if_false?]; exact place_ex N hN _ _ (gbl_ok s).2.1
      | true => rw [if_true?]; exact ⟨_, rfl⟩
/-- Where. -/
noncomputable def wh (N : Nat) (s : Str) : Int × Int × Int := (F_leaf_Where N s).getD default
theorem Where_eq (N : Nat) (hN : 100 ≤ N) (s : Str) (hs : s.length + 1 < N) (hb : s.length ≤ 100000) : F_leaf_Where N s = some (wh N s) := by
  obtain ⟨r, h⟩ := Where_ex N hN s hs hb
  unfold wh; rw [h]; rfl
noncomputable def hr (N : Nat) (s : Str) (g y : Int) : Bool := (wh N s).2.2 == 0 && ((wh N s).1 == g && (wh N s).2.1 == y)
theorem here_eq (N : Nat) (hN : 100 ≤ N) (s : Str) (hs : s.length + 1 < N) (hb : s.length ≤ 100000) (g y : Int) : F_leaf_here N s g y = some (hr N s g y) := by
  unfold F_leaf_here hr
  rw [Where_eq N hN s hs hb, bd_some]
  cases ((wh N s).2.2 == 0) <;> cases ((wh N s).1 == g) <;> cases ((wh N s).2.1 == y) <;> rfl
end Go.Proofs.Tryd
namespace Go.Proofs.Tryd
open Go.Eng Go.Lib

def Rk (k : Int) : Prop := 0 ≤ bits .and .u64 (IntKind.wrap .u64 k) 31 ∧ bits .and .u64 (IntKind.wrap .u64 k) 31 ≤ (IntKind.bits .u32 : Int) ∧ 0 ≤ IntKind.wrap .u64 (32 - bits .and .u64 (IntKind.wrap .u64 k) 31) ∧ IntKind.wrap .u64 (32 - bits .and .u64 (IntKind.wrap .u64 k) 31) ≤ (IntKind.bits .u32 : Int)
def rl (x k : Int) : Int := bits .or .u32 (IntKind.wrap .u32 (x * 2 ^ (bits .and .u64 (IntKind.wrap .u64 k) 31).toNat)) (x / 2 ^ (IntKind.wrap .u64 (32 - bits .and .u64 (IntKind.wrap .u64 k) 31)).toNat)
theorem rl_eq (N : Nat) (x k : Int) (h : Rk k) : F_bits_RotateLeft32 N x k = some (rl x k) := by
  unfold F_bits_RotateLeft32 rl
  rw [gd_of h.1, gd_of h.2.1, gd_of h.2.2.1, gd_of h.2.2.2]
theorem rl_6 (N : Nat) (x : Int) : F_bits_RotateLeft32 N x (-6) = some (rl x (-6)) := rl_eq N x _ (by unfold Rk; decide +kernel)
theorem rl_11 (N : Nat) (x : Int) : F_bits_RotateLeft32 N x (-11) = some (rl x (-11)) := rl_eq N x _ (by unfold Rk; decide +kernel)
theorem rl_25 (N : Nat) (x : Int) : F_bits_RotateLeft32 N x (-25) = some (rl x (-25)) := rl_eq N x _ (by unfold Rk; decide +kernel)
theorem rl_2 (N : Nat) (x : Int) : F_bits_RotateLeft32 N x (-2) = some (rl x (-2)) := rl_eq N x _ (by unfold Rk; decide +kernel)
theorem rl_13 (N : Nat) (x : Int) : F_bits_RotateLeft32 N x (-13) = some (rl x (-13)) := rl_eq N x _ (by unfold Rk; decide +kernel)
theorem rl_22 (N : Nat) (x : Int) : F_bits_RotateLeft32 N x (-22) = some (rl x (-22)) := rl_eq N x _ (by unfold Rk; decide +kernel)
theorem rl_7 (N : Nat) (x : Int) : F_bits_RotateLeft32 N x (-7) = some (rl x (-7)) := rl_eq N x _ (by unfold Rk; decide +kernel)
theorem rl_18 (N : Nat) (x : Int) : F_bits_RotateLeft32 N x (-18) = some (rl x (-18)) := rl_eq N x _ (by unfold Rk; decide +kernel)
theorem rl_17 (N : Nat) (x : Int) : F_bits_RotateLeft32 N x (-17) = some (rl x (-17)) := rl_eq N x _ (by unfold Rk; decide +kernel)
theorem rl_19 (N : Nat) (x : Int) : F_bits_RotateLeft32 N x (-19) = some (rl x (-19)) := rl_eq N x _ (by unfold Rk; decide +kernel)
theorem mix_1 (N : Nat) (x : Int) : F_hash_mix N x 6 11 25 = some (bits .xor .u32 (bits .xor .u32 (rl x (-6)) (rl x (-11))) (rl x (-25))) := by
  unfold F_hash_mix
  rw [rl_6, rl_11, rl_25]; rfl
theorem mix_2 (N : Nat) (x : Int) : F_hash_mix N x 2 13 22 = some (bits .xor .u32 (bits .xor .u32 (rl x (-2)) (rl x (-13))) (rl x (-22))) := by
  unfold F_hash_mix
  rw [rl_2, rl_13, rl_22]; rfl
theorem get_arr {n : Nat} {β : Type} (x : Arr n) {j : Int} {f : Int → Option β} (h1 : 0 ≤ j) (h : j < n) : get? x.l j f = f (x.l.getD j.toNat 0) := by
  have h' : j.toNat < x.l.length := by rw [x.len]; omega
  rw [get_int h1 h', List.getD_eq_getElem?_getD, List.getElem?_eq_getElem h']; rfl
theorem dlt {a b : Int} (h : a < b) : decide (a < b) = true := decide_eq_true h
theorem dge {a b : Int} (h : b ≤ a) : decide (a < b) = false := decide_eq_false (by omega)
theorem sched_hi (N : Nat) (p : List Int) (a2 : Arr 64) : ∀ (k t m : Nat) (w : Arr 64), t + k = 64 → 16 ≤ t → k < m → ∃ r, L_hash_schedule_0 N p m t a2 w = some r
  | k, t, 0, w, _, _, h => by omega
  | 0, t, m + 1, w, h, h1, _ => by
    rw [L_hash_schedule_0, dge (by omega)]
    exact ⟨_, rfl⟩
  | k + 1, t, m + 1, w, h, h1, hm => by
    rw [L_hash_schedule_0, dlt (by omega), dge (a := (t : Int)) (b := 16) (by omega)]
    simp (disch := omega) only [if_true?, if_false?, ck_of, gd_of, get_arr, rl_7, rl_18, rl_17, rl_19, bd_some, cast_succ]
    exact sched_hi N p a2 k (t + 1) m _ (by omega) (by omega) (by omega)
theorem sched_in (N : Nat) (k0 : Int → Arr 64 → Arr 64 → Option (Arr 64)) (p : List Int) (t : Nat) (a2 : Arr 64) (ht : t < 16) (hp : p.length = 64) : ∀ (k i m : Nat) (w : Arr 64), i + k = 4 → k < m → ∃ w', L_hash_schedule_1 N k0 p t a2 m i w = k0 ((t + 1 : Nat) : Int) a2 w'
  | k, i, 0, w, _, h => by omega
  | k, i, m + 1, w, h, hm => by
    have hq : ((p.drop (4 * (t : Int)).toNat).take (((4 * (t : Int)) + 4).toNat - (4 * (t : Int)).toNat)).length = 4 := by
      rw [List.length_take, List.length_drop]; omega
    rw [L_hash_schedule_1]
    generalize (p.drop (4 * (t : Int)).toNat).take (((4 * (t : Int)) + 4).toNat - (4 * (t : Int)).toNat) = q at hq
    rw [hq]
    match k, h with
    | 0, h =>
      rw [dge (by omega), if_false?, ck_of (by omega) (by omega), cast_succ]
      exact ⟨_, rfl⟩
    | k + 1, h =>
      rw [dlt (by omega), if_true?, get_of (by omega)]
      simp (disch := omega) only [ck_of, gd_of, get_arr, cast_succ]
      exact sched_in N k0 p t a2 ht hp k (i + 1) m _ (by omega) (by omega)
theorem sched_lo (N : Nat) (p : List Int) (hp : p.length = 64) (hN : 70 ≤ N) (a2 : Arr 64) : ∀ (k t m : Nat) (w : Arr 64), t + k = 16 → 64 < m + t → ∃ r, L_hash_schedule_0 N p m t a2 w = some r
  | k, t, 0, w, _, h => by omega
  | 0, t, m + 1, w, h, h1 => sched_hi N p a2 48 t (m + 1) w (by omega) (by omega) (by omega)
  | k + 1, t, m + 1, w, h, h1 => by
    rw [L_hash_schedule_0, dlt (by omega), dlt (a := (t : Int)) (b := 16) (by omega)]
    simp (disch := omega) only [if_true?, ck_of, gd_of]
    obtain ⟨w', e⟩ := sched_in N (L_hash_schedule_0 N p m) p t a2 (by omega) hp 4 0 N w (by omega) (by omega)
    have e : L_hash_schedule_1 N (L_hash_schedule_0 N p m) p t a2 N 0 w = _ := e
    rw [e]
    exact sched_lo N p hp hN a2 k (t + 1) m w' (by omega) (by omega)
theorem arr4 (x : Arr 4) : ∃ a b c d, x = Arr.of [a, b, c, d] rfl := by
  obtain ⟨l, h⟩ := x
  match l, h with
  | [a, b, c, d], h => exact ⟨a, b, c, d, rfl⟩
theorem arr8 (x : Arr 8) : ∃ a b c d e f g h, x = Arr.of [a, b, c, d, e, f, g, h] rfl := by
  obtain ⟨l, h⟩ := x
  match l, h with
  | [a, b, c, d, e, f, g, h], _ => exact ⟨a, b, c, d, e, f, g, h, rfl⟩
theorem g_0 {α β : Type} {a : α} {l : List α} {f : α → Option β} : get? (a :: l) 0 f = f a := rfl
theorem g_1 {α β : Type} {a b : α} {l : List α} {f : α → Option β} : get? (a :: b :: l) 1 f = f b := rfl
theorem g_2 {α β : Type} {a b c : α} {l : List α} {f : α → Option β} : get? (a :: b :: c :: l) 2 f = f c := rfl
theorem g_3 {α β : Type} {a b c d : α} {l : List α} {f : α → Option β} : get? (a :: b :: c :: d :: l) 3 f = f d := rfl
theorem add_1 (N n : Nat) (x y : Arr 4) (s : Arr 8) : ∃ r, L_hash_compress_1 N x y (n + 5) 0 s = some r := by
  obtain ⟨v0, v1, v2, v3, rfl⟩ := arr4 x
  obtain ⟨e0, e1, e2, e3, rfl⟩ := arr4 y
  obtain ⟨a, b, c, d, e, f, g, h, rfl⟩ := arr8 s
  exact ⟨_, rfl⟩
theorem rounds (N : Nat) (hN : 70 ≤ N) (p0 : Arr 8) (w : Arr 64) : ∀ (k t m : Nat) (x y : Arr 4), t + k = 64 → k < m → ∃ r, L_hash_compress_0 N p0 w m t x y = some r
  | k, t, 0, x, y, _, h => by omega
  | 0, t, m + 1, x, y, h, _ => by
    obtain ⟨n, rfl⟩ : ∃ n, N = n + 5 := ⟨N - 5, by omega⟩
    rw [L_hash_compress_0, dge (by omega), if_false?]
    exact add_1 (n + 5) n x y p0
  | k + 1, t, m + 1, x, y, h, hm => by
    obtain ⟨v0, v1, v2, v3, rfl⟩ := arr4 x
    obtain ⟨e0, e1, e2, e3, rfl⟩ := arr4 y
    rw [L_hash_compress_0, dlt (by omega)]
    simp (disch := omega) only [if_true?, gd_of, get_arr gA3, get_arr w, Arr.l_of, g_0, g_1, g_2, g_3, mix_1, mix_2, bd_some, ck_of, cast_succ]
    exact rounds N hN p0 w k (t + 1) m _ _ (by omega) (by omega)
theorem comp_ex (N : Nat) (hN : 70 ≤ N) (s : Arr 8) (b : List Int) (hb : b.length = 64) : ∃ r, F_hash_compress N s b = some r := by
  obtain ⟨w, h1⟩ := sched_lo N b hb hN (Arr.zero 64) 16 0 N (Arr.zero 64) (by omega) (by omega)
  unfold F_hash_compress F_hash_schedule
  have h1 : L_hash_schedule_0 N b N 0 (Arr.zero 64) (Arr.zero 64) = some w := h1
  rw [h1, bd_some]
  exact rounds N hN s w 64 0 N _ _ (by omega) (by omega)

theorem add_step (N m : Nat) (a1 : Str) (s : Arr 8) (b : Arr 64) (n : Nat) (h : a1 ≠ []) (hn : n < 1099511627776) (ha : a1.length < 1099511627776) :
    L_hash_Stream_Add_0 N (m + 1) a1 s b n = if n % 64 + min a1.length (64 - n % 64) = 64 then bd? (F_hash_compress N s (b.put (n % 64) ((intsS a1).take (min a1.length (64 - n % 64)))).l) (fun v => L_hash_Stream_Add_0 N m (a1.drop (min a1.length (64 - n % 64))) v (b.put (n % 64) ((intsS a1).take (min a1.length (64 - n % 64)))) ((n + min a1.length (64 - n % 64) : Nat) : Int)) else L_hash_Stream_Add_0 N m (a1.drop (min a1.length (64 - n % 64))) s (b.put (n % 64) ((intsS a1).take (min a1.length (64 - n % 64)))) ((n + min a1.length (64 - n % 64) : Nat) : Int) := by
  have e : Int.tmod (n : Int) 64 = ((n % 64 : Nat) : Int) := (Int.ofNat_tmod n 64).symm
  have hb : (a1 == ([] : Str)) = false := by cases a1 with
    | nil => exact absurd rfl h
    | cons x y => rfl
  rw [L_hash_Stream_Add_0, hb, if_false?, e, Int.toNat_natCast]
  generalize hA : n % 64 = A
  have hA' : A < 64 := by omega
  generalize hC : min a1.length (64 - A) = C
  have hC' : C ≤ a1.length := by omega
  have hC2 : A + C ≤ 64 := by omega
  have hd : (a1.drop C).take (a1.length - C) = a1.drop C := List.take_of_length_le (by rw [List.length_drop]; exact Nat.le_refl _)
  rw [Int.toNat_natCast, q64 (x := (C : Int)) (by omega) (by omega), q64 (x := (n : Int) + (C : Int)) (by omega) (by omega), hd, show ((n : Int) + (C : Int)) = ((n + C : Nat) : Int) by omega]
  simp (disch := omega) only [ck_of, gd_of]
  by_cases hq : A + C = 64
  · rw [if_pos hq, show ((A : Int) + (C : Int) == 64) = true by simp; omega, if_true?]
  · rw [if_neg hq, show ((A : Int) + (C : Int) == 64) = false by simp; omega, if_false?]
theorem add_tot (N : Nat) (hN : 70 ≤ N) : ∀ (m : Nat) (a1 : Str) (s : Arr 8) (b : Arr 64) (n : Nat), (a1.length = 0 ∧ 1 ≤ m) ∨ (n % 64 + a1.length) / 64 + 2 ≤ m → n + a1.length < 1099511627776 → ∃ st', L_hash_Stream_Add_0 N m a1 s b n = some st' ∧ st'.n = ((n + a1.length : Nat) : Int)
  | 0, a1, s, b, n, h, _ => by omega
  | m + 1, [], s, b, n, _, _ => by
    refine ⟨HashStream.mk s b n, ?_, rfl⟩
    rw [L_hash_Stream_Add_0]; rfl
  | m + 1, x :: a, s, b, n, h, hl => by
    have h : (n % 64 + (x :: a).length) / 64 + 2 ≤ m + 1 := h.elim (fun h => by simp at h) id
    generalize hxa : x :: a = a1 at h hl ⊢
    have hne : a1 ≠ [] := by rw [← hxa]; exact List.cons_ne_nil _ _
    have hpos : 0 < a1.length := by rw [← hxa]; exact Nat.succ_pos _
    clear hxa
    rw [add_step N m a1 s b n hne (by omega) (by omega)]
    have hA' : n % 64 < 64 := Nat.mod_lt _ (by omega)
    generalize hC : min a1.length (64 - n % 64) = C
    have hC' : C ≤ a1.length := by omega
    have e : n + a1.length = n + C + (a1.drop C).length := by rw [List.length_drop]; omega
    by_cases hq : n % 64 + C = 64
    · rw [if_pos hq]
      obtain ⟨r, hr⟩ := comp_ex N hN s _ (Arr.len (b.put (n % 64) ((intsS a1).take C)))
      rw [hr, bd_some, e]
      exact add_tot N hN m (a1.drop C) _ _ _ (.inr (by rw [List.length_drop]; omega)) (by rw [List.length_drop]; omega)
    · rw [if_neg hq, e]
      exact add_tot N hN m (a1.drop C) _ _ _ (.inl (by rw [List.length_drop]; omega)) (by rw [List.length_drop]; omega)
theorem Add_tot (N : Nat) (hN : 70 ≤ N) (st : HashStream) (n : Nat) (hn : st.n = n) (t : Str) (h : t.length / 64 + 3 ≤ N) (hl : n + t.length < 1099511627776) : ∃ st', F_hash_Stream_Add N st t = some st' ∧ st'.n = ((n + t.length : Nat) : Int) := by
  unfold F_hash_Stream_Add
  rw [hn]
  exact add_tot N hN N t _ _ n (.inr (by omega)) hl
theorem bytesI_len {l : List Int} : (bytesI l).length = l.length := List.length_map _
theorem out_tot (N : Nat) (v : HashStream) : ∀ (k t m : Nat) (w : Arr 32), t + k = 32 → k < m → ∃ r, L_hash_Stream_Sum_2 N v m t w = some r
  | k, t, 0, w, _, h => by omega
  | 0, t, m + 1, w, h, _ => by
    rw [L_hash_Stream_Sum_2, dge (by omega)]
    exact ⟨_, rfl⟩
  | k + 1, t, m + 1, w, h, hm => by
    have e1 : Int.tdiv (t : Int) 4 = ((t / 4 : Nat) : Int) := (Int.ofNat_tdiv t 4).symm
    have e2 : Int.tmod (t : Int) 4 = ((t % 4 : Nat) : Int) := (Int.ofNat_tmod t 4).symm
    have eb : (IntKind.bits .u32 : Int) = 32 := rfl
    rw [L_hash_Stream_Sum_2, dlt (by omega), e1, e2]
    simp (disch := omega) only [if_true?, ck_of, gd_of, eb, get_arr, cast_succ]
    exact out_tot N v k (t + 1) m _ (by omega) (by omega)
theorem len_tot (N : Nat) (hN : 70 ≤ N) (st : HashStream) (n : Nat) (hn : st.n = n) (hl : n < 274877906944) : ∀ (k i m : Nat) (a : List Int), i + k = 8 → k < m → a.length + k ≤ 1000 → ∃ r, L_hash_Stream_Sum_1 N st m i a = some r
  | k, i, 0, a, _, h, _ => by omega
  | 0, i, m + 1, a, h, _, ha => by
    rw [L_hash_Stream_Sum_1, dge (by omega), if_false?]
    obtain ⟨s, h1, _⟩ := Add_tot N hN st n hn (bytesI a) (by rw [bytesI_len]; omega) (by rw [bytesI_len]; omega)
    rw [h1, bd_some]
    exact out_tot N s 32 0 N _ (by omega) (by omega)
  | k + 1, i, m + 1, a, h, hm, ha => by
    have eb : (IntKind.bits .u64 : Int) = 64 := rfl
    rw [L_hash_Stream_Sum_1, dlt (by omega), if_true?, ck_of (by omega) (by omega), ck_of (by omega) (by omega), gd_of (by omega), gd_of (by omega), gd_of (by simp only [List.length_cons, List.length_nil]; omega), ck_of (by omega) (by omega), cast_succ]
    exact len_tot N hN st n hn hl k (i + 1) m _ (by omega) (by omega) (by simp only [List.length_append, List.length_cons, List.length_nil]; omega)
theorem pad_tot (N : Nat) (hN : 70 ≤ N) (st : HashStream) (n : Nat) (hn : st.n = n) (hl : n < 274877906944) : ∀ (k m : Nat) (a : List Int), (n + a.length + k) % 64 = 56 → k < m → a.length + k ≤ 900 → ∃ r, L_hash_Stream_Sum_0 N st m a = some r
  | k, 0, a, _, h, _ => by omega
  | k, m + 1, a, h, hm, ha => by
    have e1 : Int.tmod ((n : Int) + (a.length : Int)) 64 = (((n + a.length) % 64 : Nat) : Int) := by
      rw [← Int.natCast_add]; exact (Int.ofNat_tmod _ 64).symm
    rw [L_hash_Stream_Sum_0, hn, e1, ck_of (by omega) (by omega), ck_of (by omega) (by omega)]
    by_cases hz : (n + a.length) % 64 = 56
    · rw [show ((((n + a.length) % 64 : Nat) : Int) != 56) = false by simp; omega, if_false?]
      exact len_tot N hN st n hn hl 8 0 N a (by omega) (by omega) (by omega)
    · rw [show ((((n + a.length) % 64 : Nat) : Int) != 56) = true by simp; omega, if_true?, gd_of (by simp only [List.length_cons, List.length_nil]; omega)]
      obtain ⟨k', rfl⟩ : ∃ k', k = k' + 1 := ⟨k - 1, by cases k with
        | zero => exact absurd h hz
        | succ k => rfl⟩
      exact pad_tot N hN st n hn hl k' m (a ++ [0]) (by simp only [List.length_append, List.length_cons, List.length_nil]; omega) (by omega) (by simp only [List.length_append, List.length_cons, List.length_nil]; omega)
theorem Sum_tot (N : Nat) (hN : 70 ≤ N) (st : HashStream) (n : Nat) (hn : st.n = n) (hl : n < 274877906944) : ∃ r, F_hash_Stream_Sum N st = some r :=
  pad_tot N hN st n hn hl ((64 + 56 - (n + 1) % 64) % 64) N [128] (by show (n + 1 + _) % 64 = 56; omega) (by omega) (by show 1 + _ ≤ _; omega)
theorem wi_len {n : Int} (h : I64 n) : (uvarint (zigzag n)).length ≤ 10 := uvarint_length64 (by unfold zigzag; unfold I64 at h; split <;> omega)
theorem Bytes_tot (N : Nat) (s : Str) (hN : 20 ≤ N) (hs : s.length ≤ 2000) : ∃ v, F_wire_Bytes N s = some v ∧ v.length ≤ s.length + 10 := by
  have h := wi_len (n := (s.length : Int)) (by unfold I64; omega)
  unfold F_wire_Bytes
  rw [Int_enc N _ hN (by unfold I64; omega), bd_some, gd_of (by rw [intsS_len, intsS_len]; omega)]
  exact ⟨_, rfl, by rw [List.length_append, intsS_len, intsS_len]; omega⟩
theorem of_tot (N : Nat) (hN : 100 ≤ N) (p : List Str) (hp : p.length ≤ 50) (hs : ∀ s ∈ p, s.length ≤ 2000) : ∀ (k i m n : Nat) (s : Arr 8) (b : Arr 64), n ≤ 3000 * i + 1 → i + k = p.length → k < m → ∃ r, L_hash_Of_0 N p m i s b n = some r
  | k, i, 0, n, s, b, _, _, h => by omega
  | 0, i, m + 1, n, s, b, hn, h, _ => by
    obtain ⟨r, hr⟩ := Sum_tot N (by omega) (HashStream.mk s b n) n rfl (by omega)
    rw [L_hash_Of_0, dge (by omega), if_false?, hr, bd_some]
    exact ⟨_, rfl⟩
  | k + 1, i, m + 1, n, s, b, hn, h, hm => by
    have hi : i < p.length := by omega
    have hl := hs p[i] (List.getElem_mem hi)
    obtain ⟨v, h1, h2⟩ := Bytes_tot N p[i] (by omega) hl
    obtain ⟨st, h3, h4⟩ := Add_tot N (by omega) (HashStream.mk s b n) n rfl (bytesI v) (by rw [bytesI_len]; omega) (by rw [bytesI_len]; omega)
    rw [L_hash_Of_0, dlt (by omega), if_true?, get_of hi, h1, bd_some, h3, bd_some, ck_of (by omega) (by omega), h4, cast_succ]
    exact of_tot N hN p hp hs k (i + 1) m _ _ _ (by rw [bytesI_len]; omega) (by omega) (by omega)
theorem Of_tot (N : Nat) (hN : 100 ≤ N) (tag : Int) (p : List Str) (hp : p.length ≤ 50) (hs : ∀ s ∈ p, s.length ≤ 2000) : ∃ r, F_hash_Of N tag p = some r := by
  unfold F_hash_Of F_hash_Begin
  obtain ⟨st, h1, h2⟩ := Add_tot N (by omega) (HashStream.mk (Arr.of [1779033703, 3144134277, 1013904242, 2773480762, 1359893119, 2600822924, 528734635, 1541459225] rfl) (Arr.zero 64) 0) 0 rfl (bytesI [IntKind.wrap .u8 tag]) (by rw [bytesI_len]; show 1 / 64 + 3 ≤ N; omega) (by rw [bytesI_len]; show 0 + 1 < _; omega)
  rw [bd_some, h1, bd_some, h2, bytesI_len]
  exact of_tot N hN p hp hs p.length 0 N _ _ _ (by show 0 + 1 ≤ _; omega) (by omega) (by omega)
end Go.Proofs.Tryd
namespace Go.Proofs.Tryd
open Go.Eng Go.Lib

def nd (N : Nat) (a b : Arr 16) : Arr 16 := (F_merkle_Node N a b).getD default
def emp (N : Nat) : Arr 16 := (F_merkle_empty N).getD default
def lf (N : Nat) (s : Str) : Arr 16 := (F_merkle_Leaf N s).getD default
theorem D_of {α : Type} [Inhabited α] {o : Option α} (h : ∃ r, o = some r) : o = some (o.getD default) := by
  obtain ⟨r, rfl⟩ := h; rfl
theorem node_1 (N : Nat) (hN : 100 ≤ N) (a b : Arr 16) : F_merkle_Node N a b = some (nd N a b) := D_of (by
  obtain ⟨d, h⟩ := Of_tot N hN 31 [bytesI a.l, bytesI b.l] (by simp) (by
    intro s hs
    simp only [List.mem_cons, List.not_mem_nil, or_false] at hs
    rcases hs with rfl | rfl <;> (rw [bytesI_len, Arr.len]; omega))
  unfold F_merkle_Node; rw [h, bd_some]; exact ⟨_, rfl⟩)
theorem emp_1 (N : Nat) (hN : 100 ≤ N) : F_merkle_empty N = some (emp N) := D_of (by
  obtain ⟨d, h⟩ := Of_tot N hN 32 [] (by simp) (by simp)
  unfold F_merkle_empty; rw [h, bd_some]; exact ⟨_, rfl⟩)
theorem lf_1 (N : Nat) (hN : 100 ≤ N) (s : Str) (hs : s.length ≤ 2000) : F_merkle_Leaf N s = some (lf N s) := D_of (by
  obtain ⟨d, h⟩ := Of_tot N hN 30 [s] (by simp) (by simpa using hs)
  unfold F_merkle_Leaf; rw [h, bd_some]; exact ⟨_, rfl⟩)
theorem q8w {x : Int} (h : 0 ≤ x) (h' : x < 256) : IntKind.wrap .u8 x = x := by
  have : IntKind.wrap .u8 x = x % 256 := by simp [IntKind.wrap, IntKind.bits, IntKind.signed]
  rw [this]; omega
theorem k0_fin : ∀ n : Fin 256, kstr0[n.val]? = some (UInt8.ofNat (Lib.bitLen n.val)) := by decide +kernel
theorem k0_get {β : Type} (y : Nat) (h : y < 256) (f : UInt8 → Option β) : get? kstr0 (IntKind.wrap .u8 (y : Int)) f = f (UInt8.ofNat (Lib.bitLen y)) := by
  rw [q8w (by omega) (by omega)]
  unfold get?
  rw [if_pos (by omega), Int.toNat_natCast, k0_fin ⟨y, h⟩]
theorem k0_nat (y : Nat) (h : y < 256) : ((UInt8.ofNat (Lib.bitLen y)).toNat : Int) = (Lib.bitLen y : Int) := by
  have : Lib.bitLen y ≤ 8 := Lib.bitLen_le8 ⟨y, h⟩
  rw [UInt8.toNat_ofNat']; omega
theorem len64_eq (N x : Nat) (hx : x < 4611686018427387904) : F_bits_Len64 N (x : Int) = some (Lib.bitLen x : Int) := by
  have p32 : (2 : Int) ^ (32 : Int).toNat = 4294967296 := rfl
  have p16 : (2 : Int) ^ (16 : Int).toNat = 65536 := rfl
  have p8 : (2 : Int) ^ (8 : Int).toNat = 256 := rfl
  have q32 : ∀ y : Nat, (y : Int) / 4294967296 = ((y / 4294967296 : Nat) : Int) := fun y => by omega
  have q16 : ∀ y : Nat, (y : Int) / 65536 = ((y / 65536 : Nat) : Int) := fun y => by omega
  have q8 : ∀ y : Nat, (y : Int) / 256 = ((y / 256 : Nat) : Int) := fun y => by omega
  have b8 : ∀ y : Nat, y < 256 → Lib.bitLen y ≤ 8 := fun y h => Lib.bitLen_le8 ⟨y, h⟩
  unfold F_bits_Len64
  rw [p32, p16, p8, q32, q16, q16, q8, q8, q8, q8]
  by_cases h1 : 4294967296 ≤ x
  · have s1 := Lib.bitLen_shift32 x h1 (by omega)
    rw [show decide ((x : Int) ≥ 4294967296) = true by rw [decide_eq_true_eq]; omega, if_true?]
    generalize hy : x / 4294967296 = y at *
    by_cases h2 : 65536 ≤ y
    · have s2 := Lib.bitLen_shift16 y h2 (by omega)
      rw [show decide ((y : Int) ≥ 65536) = true by rw [decide_eq_true_eq]; omega, if_true?]
      generalize hz : y / 65536 = z at *
      by_cases h3 : 256 ≤ z
      · have s3 := Lib.bitLen_shift8 z h3 (by omega)
        have := b8 (z / 256) (by omega)
        rw [show decide ((z : Int) ≥ 256) = true by rw [decide_eq_true_eq]; omega, if_true?, k0_get _ (by omega), k0_nat _ (by omega), ck_of (by omega) (by omega), ck_of (by omega) (by omega)]
        congr 1; omega
      · have := b8 z (by omega)
        rw [show decide ((z : Int) ≥ 256) = false by rw [decide_eq_false_iff_not]; omega, if_false?, k0_get _ (by omega), k0_nat _ (by omega), ck_of (by omega) (by omega), ck_of (by omega) (by omega)]
        congr 1; omega
    · rw [show decide ((y : Int) ≥ 65536) = false by rw [decide_eq_false_iff_not]; omega, if_false?]
      by_cases h3 : 256 ≤ y
      · have s3 := Lib.bitLen_shift8 y h3 (by omega)
        have := b8 (y / 256) (by omega)
        rw [show decide ((y : Int) ≥ 256) = true by rw [decide_eq_true_eq]; omega, if_true?, k0_get _ (by omega), k0_nat _ (by omega), ck_of (by omega) (by omega), ck_of (by omega) (by omega)]
        congr 1; omega
      · have := b8 y (by omega)
        rw [show decide ((y : Int) ≥ 256) = false by rw [decide_eq_false_iff_not]; omega, if_false?, k0_get _ (by omega), k0_nat _ (by omega), ck_of (by omega) (by omega), ck_of (by omega) (by omega)]
        congr 1; omega
  · rw [show decide ((x : Int) ≥ 4294967296) = false by rw [decide_eq_false_iff_not]; omega, if_false?]
    by_cases h2 : 65536 ≤ x
    · have s2 := Lib.bitLen_shift16 x h2 (by omega)
      rw [show decide ((x : Int) ≥ 65536) = true by rw [decide_eq_true_eq]; omega, if_true?]
      generalize hz : x / 65536 = z at *
      by_cases h3 : 256 ≤ z
      · have s3 := Lib.bitLen_shift8 z h3 (by omega)
        have := b8 (z / 256) (by omega)
        rw [show decide ((z : Int) ≥ 256) = true by rw [decide_eq_true_eq]; omega, if_true?, k0_get _ (by omega), k0_nat _ (by omega), ck_of (by omega) (by omega), ck_of (by omega) (by omega)]
        congr 1; omega
      · have := b8 z (by omega)
        rw [show decide ((z : Int) ≥ 256) = false by rw [decide_eq_false_iff_not]; omega, if_false?, k0_get _ (by omega), k0_nat _ (by omega), ck_of (by omega) (by omega), ck_of (by omega) (by omega)]
        congr 1; omega
    · rw [show decide ((x : Int) ≥ 65536) = false by rw [decide_eq_false_iff_not]; omega, if_false?]
      by_cases h3 : 256 ≤ x
      · have s3 := Lib.bitLen_shift8 x h3 (by omega)
        have := b8 (x / 256) (by omega)
        rw [show decide ((x : Int) ≥ 256) = true by rw [decide_eq_true_eq]; omega, if_true?, k0_get _ (by omega), k0_nat _ (by omega), ck_of (by omega) (by omega), ck_of (by omega) (by omega)]
        congr 1; omega
      · have := b8 x (by omega)
        rw [show decide ((x : Int) ≥ 256) = false by rw [decide_eq_false_iff_not]; omega, if_false?, k0_get _ (by omega), k0_nat _ (by omega), ck_of (by omega) (by omega), ck_of (by omega) (by omega)]
        congr 1; omega
theorem len_pow : ∀ (k x : Nat), x < 2 ^ k → k ≤ 62 → 0 < x → 2 ^ (Lib.bitLen x - 1) ≤ x ∧ x < 2 * 2 ^ (Lib.bitLen x - 1) ∧ 1 ≤ Lib.bitLen x ∧ Lib.bitLen x ≤ k
  | 0, x, h, _, h1 => by simp at h; omega
  | k + 1, x, h, hk, h1 => by
    have hx : x < 2 ^ 64 := Nat.lt_of_lt_of_le h (Nat.pow_le_pow_right (by omega) (by omega))
    rw [Lib.bitLen_half x (by omega) hx]
    by_cases h2 : x / 2 = 0
    · have : Lib.bitLen 0 = 0 := by decide
      rw [h2, this]
      have : x = 1 := by omega
      subst this
      simp
    · obtain ⟨a, b, c, d⟩ := len_pow k (x / 2) (by rw [Nat.pow_succ] at h; omega) (by omega) (by omega)
      have e : 2 ^ (1 + Lib.bitLen (x / 2) - 1) = 2 * 2 ^ (Lib.bitLen (x / 2) - 1) := by
        rw [show 1 + Lib.bitLen (x / 2) - 1 = (Lib.bitLen (x / 2) - 1) + 1 by omega, Nat.pow_succ]; omega
      rw [e]
      omega
def sp (n : Nat) : Nat := 2 ^ (Lib.bitLen (n - 1) - 1)
theorem sp_lt (n : Nat) (h : 2 ≤ n) (h' : n ≤ 2199023255552) : 1 ≤ sp n ∧ sp n < n ∧ n ≤ 2 * sp n := by
  obtain ⟨a, b, c, d⟩ := len_pow 62 (n - 1) (by omega) (by omega) (by omega)
  have : 0 < 2 ^ (Lib.bitLen (n - 1) - 1) := Nat.two_pow_pos _
  unfold sp; omega
theorem split_1 (N n : Nat) (h : 2 ≤ n) (h' : n ≤ 2199023255552) : F_merkle_split N (n : Int) = some ((sp n : Nat) : Int) := by
  obtain ⟨a, b, c, d⟩ := len_pow 62 (n - 1) (by omega) (by omega) (by omega)
  have eb : (IntKind.bits .i64 : Int) = 64 := rfl
  unfold F_merkle_split F_bits_Len
  rw [ck_of (by omega) (by omega), show (n : Int) - 1 = ((n - 1 : Nat) : Int) by omega, q64 (by omega) (by omega), len64_eq N (n - 1) (by omega), bd_some, bd_some, ck_of (by omega) (by omega), gd_of (by omega), gd_of (by omega)]
  have e : (1 : Int) * 2 ^ ((Lib.bitLen (n - 1) : Int) - 1).toNat = ((sp n : Nat) : Int) := by
    rw [show ((Lib.bitLen (n - 1) : Int) - 1).toNat = Lib.bitLen (n - 1) - 1 by omega, Int.one_mul]
    unfold sp
    rw [Int.natCast_pow]; rfl
  rw [e]
  have := sp_lt n h h'
  rw [ck_of (by omega) (by omega)]
theorem same_len {α : Type} (l : List α) (k : Nat) : (l.drop k).take (l.length - k) = l.drop k := List.take_of_length_le (by rw [List.length_drop]; exact Nat.le_refl _)
theorem root_st (N : Nat) (hN : 100 ≤ N) (d : Nat) (l : List (Arr 16)) (h1 : 2 ≤ l.length) (hb : l.length ≤ 1000000) : F_merkle_Root_r N (d + 1) l = bd? (F_merkle_Root_r N d (l.take (sp l.length))) fun a => bd? (F_merkle_Root_r N d (l.drop (sp l.length))) fun b => some (nd N a b) := by
  have hs := sp_lt l.length (by omega) (by omega)
  rw [F_merkle_Root_r, show ((l.length : Int) == 0) = false by (have : (l.length : Int) ≠ 0 := by omega); exact beq_false_of_ne this, if_false?, show ((l.length : Int) == 1) = false by simp; omega, if_false?, split_1 N l.length (by omega) (by omega), bd_some, gd_of (by omega), gd_of (by omega), Int.toNat_natCast, Nat.sub_zero]
  congr 1; funext a
  rw [gd_of (by omega), gd_of (by omega), gd_of (by omega), Int.toNat_natCast, same_len]
  congr 1; funext b
  rw [node_1 N hN, bd_some]
theorem root_ex (N : Nat) (hN : 100 ≤ N) : ∀ (k d d' : Nat) (l : List (Arr 16)), l.length ≤ k → k < d → k < d' → l.length ≤ 1000000 → ∃ r, F_merkle_Root_r N d l = some r ∧ F_merkle_Root_r N d' l = some r
  | k, 0, d', l, _, h, _, _ => by omega
  | k, d + 1, 0, l, _, _, h, _ => by omega
  | k, d + 1, d' + 1, l, hl, hd, hd', hb => by
    by_cases h1 : l.length = 0
    · rw [F_merkle_Root_r, F_merkle_Root_r, show ((l.length : Int) == 0) = true by rw [h1]; rfl, if_true?, emp_1 N hN]
      exact ⟨_, rfl, rfl⟩
    · by_cases h2 : l.length = 1
      · rw [F_merkle_Root_r, F_merkle_Root_r, show ((l.length : Int) == 0) = false by simp; exact fun h => h1 (by rw [h]; rfl), if_false?, show ((l.length : Int) == 1) = true by rw [h2]; rfl, if_true?, show (0 : Int) = ((0 : Nat) : Int) from rfl, get_of (by omega)]
        exact ⟨_, rfl, rfl⟩
      · have hs := sp_lt l.length (by omega) (by omega)
        obtain ⟨k', rfl⟩ : ∃ k', k = k' + 1 := ⟨k - 1, by omega⟩
        obtain ⟨x, x1, x2⟩ := root_ex N hN k' d d' (l.take (sp l.length)) (by rw [List.length_take]; omega) (by omega) (by omega) (by rw [List.length_take]; omega)
        obtain ⟨y, y1, y2⟩ := root_ex N hN k' d d' (l.drop (sp l.length)) (by rw [List.length_drop]; omega) (by omega) (by omega) (by rw [List.length_drop]; omega)
        rw [root_st N hN d l (by omega) hb, root_st N hN d' l (by omega) hb, x1, x2, bd_some, bd_some, y1, y2]
        exact ⟨_, rfl, rfl⟩
/-- The root of a list. -/
def rt (N : Nat) (l : List (Arr 16)) : Arr 16 := (F_merkle_Root N l).getD default
theorem rt_1 (N : Nat) (hN : 100 ≤ N) (l : List (Arr 16)) (h : l.length < N) (hb : l.length ≤ 1000000) : F_merkle_Root N l = some (rt N l) := D_of (by
  obtain ⟨r, h1, _⟩ := root_ex N hN l.length N N l (Nat.le_refl _) h h hb
  exact ⟨r, h1⟩)
theorem rt_any (N : Nat) (hN : 100 ≤ N) (d : Nat) (l : List (Arr 16)) (h : l.length < d) (h1 : l.length < N) (hb : l.length ≤ 1000000) : F_merkle_Root_r N d l = some (rt N l) := by
  obtain ⟨r, r1, r2⟩ := root_ex N hN l.length d N l (Nat.le_refl _) h h1 hb
  have r3 : F_merkle_Root N l = some r := r2
  rw [rt_1 N hN l h1 hb] at r3
  rw [r1, Option.some.inj r3]
theorem rt_one (N : Nat) (hN : 100 ≤ N) (x : Arr 16) : rt N [x] = x := by
  have h := rt_any N hN 2 [x] (by simp) (by simp; omega) (by simp)
  exact (Option.some.inj h).symm
theorem rt_step (N : Nat) (hN : 100 ≤ N) (l : List (Arr 16)) (h : 2 ≤ l.length) (h1 : l.length < N) (hb : l.length ≤ 1000000) : rt N l = nd N (rt N (l.take (sp l.length))) (rt N (l.drop (sp l.length))) := by
  have hs := sp_lt l.length (by omega) (by omega)
  have e := rt_any N hN (l.length + 1) l (by omega) h1 hb
  rw [F_merkle_Root_r, show ((l.length : Int) == 0) = false by (have : (l.length : Int) ≠ 0 := by omega); exact beq_false_of_ne this, if_false?, show ((l.length : Int) == 1) = false by simp; omega, if_false?, split_1 N l.length (by omega) (by omega), bd_some, gd_of (by omega), gd_of (by omega), Int.toNat_natCast, Nat.sub_zero, rt_any N hN _ (l.take (sp l.length)) (by rw [List.length_take]; omega) (by rw [List.length_take]; omega) (by rw [List.length_take]; omega), bd_some, gd_of (by omega), gd_of (by omega), gd_of (by omega), Int.toNat_natCast, same_len, rt_any N hN _ (l.drop (sp l.length)) (by rw [List.length_drop]; omega) (by rw [List.length_drop]; omega) (by rw [List.length_drop]; omega), bd_some, node_1 N hN, bd_some] at e
  exact (Option.some.inj e).symm
theorem last_app (N : Nat) (u : List (Arr 16)) (x : Arr 16) (s : Bool) (h : u.length ≤ 1000000) : F_merkle_path_last N (Merklepath.mk (u ++ [x]) s) = some (x, Merklepath.mk u s) := by
  have e : (u ++ [x]).length = u.length + 1 := by simp
  unfold F_merkle_path_last
  simp only [e]
  rw [show (((u.length + 1 : Nat) : Int) == 0) = false by simp; omega, if_false?, ck_of (by omega) (by omega), show ((u.length + 1 : Nat) : Int) - 1 = (u.length : Int) by omega, get_of (by omega), gd_of (by omega), Int.toNat_natCast, gd_of (by omega), Nat.sub_zero, List.take_left, List.getElem_append_right (Nat.le_refl _)]
  simp
theorem incl_ok (N : Nat) (hN : 100 ≤ N) : ∀ (k d d' : Nat) (l : List (Arr 16)) (i : Nat) (q u : List (Arr 16)) (s : Bool) (x : Arr 16), l[i]? = some x → i < l.length → l.length ≤ k → k < d → k < d' → l.length ≤ 1000 → l.length < N → q.length + k ≤ 10000 → u.length + k ≤ 10000 →
    ∃ v, F_merkle_Inclusion_1_r N d l (i : Int) q = some (q ++ v) ∧ F_merkle_CheckInclusion_1_r N d' (i : Int) (l.length : Int) x (Merklepath.mk (u ++ v) s) = some (rt N l, Merklepath.mk u s) ∧ v.length ≤ k
  | k, 0, d', l, i, q, u, s, x, _, hi, _, h, _, _, _, _, _ => by omega
  | k, d + 1, 0, l, i, q, u, s, x, _, hi, _, _, h, _, _, _, _ => by omega
  | k, d + 1, d' + 1, l, i, q, u, s, x, hx, hi, hl, hd, hd', hb, hn, hq, hu => by
    by_cases h1 : l.length = 1
    · match l, h1, hi with
      | [y], _, hi =>
        obtain rfl : i = 0 := by simp at hi; omega
        obtain rfl : y = x := Option.some.inj hx
        exact ⟨[], by rw [List.append_nil]; rfl, by rw [List.append_nil, rt_one N hN]; rfl, Nat.zero_le _⟩
    · have hs := sp_lt l.length (by omega) (by omega)
      have hst := rt_step N hN l (by omega) hn (by omega)
      obtain ⟨k', rfl⟩ : ∃ k', k = k' + 1 := ⟨k - 1, by omega⟩
      have e1 : (l.take (sp l.length)).length = sp l.length := by rw [List.length_take]; omega
      have e2 : (l.drop (sp l.length)).length = l.length - sp l.length := List.length_drop
      have b1 : ((l.length : Int) == 1) = false := by simp; omega
      have b2 := split_1 N l.length (by omega) (by omega)
      by_cases hc : i < sp l.length
      · have b3 : decide ((i : Int) < ((sp l.length : Nat) : Int)) = true := by rw [decide_eq_true_eq]; omega
        obtain ⟨v, v1, v2, v3⟩ := incl_ok N hN k' d d' (l.take (sp l.length)) i q u s x (by rw [List.getElem?_take_of_lt hc]; exact hx) (by omega) (by omega) (by omega) (by omega) (by omega) (by omega) (by omega) (by omega)
        rw [e1] at v2
        have hr := rt_any N hN N (l.drop (sp l.length)) (by omega) (by omega) (by omega)
        have hr : F_merkle_Root N (l.drop (sp l.length)) = _ := hr
        refine ⟨v ++ [rt N (l.drop (sp l.length))], ?_, ?_, by simp; omega⟩
        · rw [F_merkle_Inclusion_1_r, b1, if_false?, b2, bd_some, b3, if_true?, gd_of (by omega), gd_of (by omega), Int.toNat_natCast, Nat.sub_zero, v1, bd_some, same_len, hr, bd_some, gd_of (by simp; omega), List.append_assoc]
        · rw [F_merkle_CheckInclusion_1_r, b1, if_false?, b2, bd_some, ← List.append_assoc, last_app N _ _ _ (by simp; omega), bd_some, b3, if_true?, v2, bd_some, node_1 N hN, bd_some, hst]
      · have b3 : decide ((i : Int) < ((sp l.length : Nat) : Int)) = false := by rw [decide_eq_false_iff_not]; omega
        obtain ⟨v, v1, v2, v3⟩ := incl_ok N hN k' d d' (l.drop (sp l.length)) (i - sp l.length) q u s x (by rw [List.getElem?_drop, show sp l.length + (i - sp l.length) = i by omega]; exact hx) (by omega) (by omega) (by omega) (by omega) (by omega) (by omega) (by omega) (by omega)
        rw [e2] at v2
        have hr := rt_any N hN N (l.take (sp l.length)) (by omega) (by omega) (by omega)
        have hr : F_merkle_Root N (l.take (sp l.length)) = _ := hr
        refine ⟨v ++ [rt N (l.take (sp l.length))], ?_, ?_, by simp; omega⟩
        · rw [F_merkle_Inclusion_1_r, b1, if_false?, b2, bd_some, b3, if_false?, gd_of (by omega), gd_of (by omega), ck_of (by omega) (by omega), Int.toNat_natCast, Nat.sub_zero, same_len, show (i : Int) - ((sp l.length : Nat) : Int) = ((i - sp l.length : Nat) : Int) by omega, v1, bd_some, hr, bd_some, gd_of (by simp; omega), List.append_assoc]
        · rw [F_merkle_CheckInclusion_1_r, b1, if_false?, b2, bd_some, ← List.append_assoc, last_app N _ _ _ (by simp; omega), bd_some, b3, if_false?, ck_of (by omega) (by omega), ck_of (by omega) (by omega), show (i : Int) - ((sp l.length : Nat) : Int) = ((i - sp l.length : Nat) : Int) by omega, show (l.length : Int) - ((sp l.length : Nat) : Int) = ((l.length - sp l.length : Nat) : Int) by omega]
          rw [v2, bd_some, node_1 N hN, bd_some, hst]

theorem rt_nil (N : Nat) (hN : 100 ≤ N) : rt N [] = emp N := by
  have h := rt_any N hN 1 [] (by simp) (by simp; omega) (by simp)
  have e : F_merkle_Root_r N 1 [] = bd? (F_merkle_empty N) fun v1 => some v1 := rfl
  rw [e, emp_1 N hN] at h
  exact (Option.some.inj h).symm
theorem settle_put (N : Nat) (q : Bool) : F_merkle_path_settle_put N (Merklepath.mk [] false) q = some q := by cases q <;> rfl
theorem incl_acc (N : Nat) (hN : 100 ≤ N) (l : List (Arr 16)) (i : Nat) (x : Arr 16) (hx : l[i]? = some x) (hi : i < l.length) (hb : l.length ≤ 1000) (hn : l.length < N) :
    ∃ v, F_merkle_Inclusion N l (i : Int) = some (v, 0) ∧ F_merkle_CheckInclusion N x (i : Int) (l.length : Int) v (rt N l) = some true := by
  obtain ⟨v, v1, v2, v3⟩ := incl_ok N hN l.length N N l i [] [] false x hx hi (Nat.le_refl _) hn hn hb hn (by simp; omega) (by simp; omega)
  have v1 : F_merkle_Inclusion_1 N l (i : Int) [] = some v := v1
  have v2 : F_merkle_CheckInclusion_1 N (i : Int) (l.length : Int) x (Merklepath.mk v false) = some (rt N l, Merklepath.mk [] false) := v2
  refine ⟨v, ?_, ?_⟩
  · unfold F_merkle_Inclusion
    rw [show decide ((i : Int) < 0) = false by rw [decide_eq_false_iff_not]; omega, if_false?, show decide ((i : Int) ≥ (l.length : Int)) = false by rw [decide_eq_false_iff_not]; omega, if_false?, v1, bd_some]
  · unfold F_merkle_CheckInclusion
    rw [show decide ((l.length : Int) < 1) = false by rw [decide_eq_false_iff_not]; omega, if_false?, show decide ((l.length : Int) > 1099511627776) = false by rw [decide_eq_false_iff_not]; omega, if_false?, show decide ((i : Int) < 0) = false by rw [decide_eq_false_iff_not]; omega, if_false?, show decide ((i : Int) ≥ (l.length : Int)) = false by rw [decide_eq_false_iff_not]; omega, if_false?, v2, bd_some, settle_put, bd_some, beq_self_eq_true]
end Go.Proofs.Tryd
namespace Go.Proofs.Tryd
open Go.Eng Go.Lib

theorem bl_irr : ∀ x : Str, Op.bytesLess x x = false
  | [] => rfl
  | a :: x => by rw [Op.bytesLess, bl_irr x]; simp
theorem bl_trans : ∀ x y z : Str, Op.bytesLess x y = true → Op.bytesLess y z = true → Op.bytesLess x z = true
  | x, [], _, h, _ => by cases x <;> exact absurd h (by simp [Op.bytesLess])
  | _, _ :: _, [], _, h => by cases h
  | [], _ :: _, _ :: _, _, _ => rfl
  | a :: x, b :: y, c :: z, h1, h2 => by
    simp only [Op.bytesLess, Bool.or_eq_true, decide_eq_true_eq, Bool.and_eq_true, beq_iff_eq] at h1 h2 ⊢
    rcases h1 with h1 | ⟨rfl, h1⟩ <;> rcases h2 with h2 | ⟨rfl, h2⟩
    · exact .inl (UInt8.lt_trans h1 h2)
    · exact .inl h1
    · exact .inl h2
    · exact .inr ⟨rfl, bl_trans x y z h1 h2⟩
theorem bl_tri : ∀ x y : Str, Op.bytesLess x y = false → x ≠ y → Op.bytesLess y x = true
  | [], [], _, h => absurd rfl h
  | [], _ :: _, h, _ => by cases h
  | _ :: _, [], _, _ => rfl
  | a :: x, b :: y, h1, h2 => by
    simp only [Op.bytesLess, Bool.or_eq_false_iff, decide_eq_false_iff_not, Bool.and_eq_false_iff, beq_eq_false_iff_ne] at h1
    simp only [Op.bytesLess, Bool.or_eq_true, decide_eq_true_eq, Bool.and_eq_true, beq_iff_eq]
    obtain ⟨h1, h3⟩ := h1
    by_cases e : a = b
    · subst e
      refine .inr ⟨rfl, bl_tri x y (h3.elim (fun h => absurd rfl h) id) fun h => h2 (by rw [h])⟩
    · refine .inl ?_
      rw [UInt8.lt_iff_toNat_lt] at h1 ⊢
      have : a.toNat ≠ b.toNat := fun h => e (UInt8.toNat_inj.1 h)
      omega

def Srt (l : List Str) : Prop := ∀ i j : Nat, i < j → ∀ (hi : i < l.length) (hj : j < l.length), Op.bytesLess l[i] l[j] = true
theorem less_eq (N : Nat) (x y : Str) : F_cmp_Less_string N x y = some (Op.bytesLess x y) := by
  unfold F_cmp_Less_string F_cmp_isNaN_string
  rw [beq_self_eq_true, bd_some]; rfl
theorem half_eq (a b : Nat) (h : a + b ≤ 1000000) : (IntKind.wrap .u64 ((a : Int) + (b : Int))) / 2 ^ (1 : Int).toNat = (((a + b) / 2 : Nat) : Int) := by
  rw [q64 (by omega) (by omega), show (2 : Int) ^ (1 : Int).toNat = 2 from rfl, ← Int.natCast_add]; omega
/-- Where a string is, or would be. -/
def Found (l : List Str) (t : Str) (k : Nat) (b : Bool) : Prop :=
  k ≤ l.length ∧ (∀ i, i < k → ∀ hi : i < l.length, Op.bytesLess l[i] t = true) ∧ (b = true → ∃ h : k < l.length, l[k] = t) ∧ (b = false → (∀ h : k < l.length, Op.bytesLess t l[k] = true) ∧ t ∉ l)
theorem bs_ex (N : Nat) (l : List Str) (t : Str) (hb : l.length ≤ 100000) (hs : Srt l) : ∀ (k m a b : Nat), b - a ≤ k → k < m → a ≤ b → b ≤ l.length → (∀ i, i < a → ∀ hi : i < l.length, Op.bytesLess l[i] t = true) → (∀ i, b ≤ i → ∀ hi : i < l.length, Op.bytesLess l[i] t = false) →
    ∃ (p : Nat) (f : Bool), L_slices_BinarySearch_string_string_0 N l t m a b = some ((p : Int), f) ∧ Found l t p f
  | k, 0, a, b, _, h, _, _, _, _ => by omega
  | k, m + 1, a, b, hk, hm, hab, hbl, h1, h2 => by
    rw [L_slices_BinarySearch_string_string_0]
    by_cases hc : a < b
    · have hh : (a + b) / 2 < l.length := by omega
      rw [dlt (by omega), if_true?, half_eq a b (by omega), ck_of (by omega) (by omega), ck_of (by omega) (by omega), get_of hh, less_eq, bd_some]
      cases hl : Op.bytesLess l[(a + b) / 2] t with
      | true =>
        rw [if_true?, ck_of (by omega) (by omega), cast_succ]
        refine bs_ex N l t hb hs (k - 1) m ((a + b) / 2 + 1) b (by omega) (by omega) (by omega) hbl (fun i hi hi' => ?_) h2
        rcases Nat.lt_or_ge i ((a + b) / 2) with h | h
        · exact bl_trans _ _ _ (hs i _ h hi' hh) hl
        · have e : i = (a + b) / 2 := by omega
          subst e; exact hl
      | false =>
        rw [if_false?]
        refine bs_ex N l t hb hs (k - 1) m a ((a + b) / 2) (by omega) (by omega) (by omega) (by omega) h1 (fun i hi hi' => ?_)
        rcases Nat.lt_or_ge ((a + b) / 2) i with h | h
        · cases hq : Op.bytesLess l[i] t with
          | false => rfl
          | true => rw [bl_trans _ _ _ (hs _ i h hh hi') hq] at hl; cases hl
        · have e : i = (a + b) / 2 := by omega
          subst e; exact hl
    · obtain rfl : a = b := by omega
      rw [dge (by omega), if_false?]
      have hnot : ∀ (h : a < l.length), l[a] ≠ t → t ∉ l := fun h hne hm => by
        obtain ⟨i, hi, rfl⟩ := List.getElem_of_mem hm
        rcases Nat.lt_trichotomy i a with h' | h' | h'
        · have := h1 i h' hi; rw [bl_irr] at this; cases this
        · subst h'; exact hne rfl
        · have := h2 a (Nat.le_refl _) h
          rw [hs a i h' h hi] at this; cases this
      by_cases hl : a < l.length
      · rw [dlt (by omega), if_true?, get_of hl]
        by_cases he : l[a] = t
        · rw [show (l[a] == t) = true by rw [beq_iff_eq]; exact he, if_true?]
          exact ⟨a, true, rfl, by omega, h1, fun _ => ⟨hl, he⟩, fun h => by cases h⟩
        · rw [show (l[a] == t) = false by rw [beq_eq_false_iff_ne]; exact he, if_false?]
          unfold F_slices_isNaN_string
          rw [beq_self_eq_true, bd_some]
          exact ⟨a, false, rfl, by omega, h1, fun h => Bool.noConfusion h, fun _ => ⟨fun h => bl_tri _ _ (h2 a (Nat.le_refl _) h) he, hnot hl he⟩⟩
      · rw [dge (by omega), if_false?]
        refine ⟨a, false, rfl, by omega, h1, fun h => Bool.noConfusion h, fun _ => ⟨fun h => absurd h hl, fun hm => ?_⟩⟩
        obtain ⟨i, hi, rfl⟩ := List.getElem_of_mem hm
        have := h1 i (by omega) hi
        rw [bl_irr] at this; cases this
theorem bs_eq (N : Nat) (l : List Str) (t : Str) (hN : l.length < N) (hb : l.length ≤ 100000) (hs : Srt l) : ∃ (p : Nat) (f : Bool), F_slices_BinarySearch_string_string N l t = some ((p : Int), f) ∧ Found l t p f :=
  bs_ex N l t hb hs l.length N 0 l.length (by omega) hN (by omega) (Nat.le_refl _) (fun i h => by omega) (fun i h h' => by omega)
theorem idx_ex (N : Nat) (l : List Str) (t : Str) (hb : l.length ≤ 100000) : ∀ (k i m : Nat), i + k = l.length → k < m → ∃ r : Int, L_slices_Index_string_string_0 N l t m i = some r ∧ (decide (r ≥ 0) = decide (t ∈ l.drop i))
  | k, i, 0, _, h => by omega
  | 0, i, m + 1, h, _ => by
    rw [L_slices_Index_string_string_0, dge (by omega)]
    exact ⟨_, rfl, by rw [List.drop_eq_nil_of_le (by omega)]; rfl⟩
  | k + 1, i, m + 1, h, hm => by
    have hi : i < l.length := by omega
    rw [L_slices_Index_string_string_0, dlt (by omega), if_true?, drop_cons hi]
    by_cases he : t = l[i]
    · refine ⟨(i : Int), ?_, ?_⟩
      · first | rw [get_of hi, show (t == l[i]) = true by rw [beq_iff_eq]; exact he] | rw [get_of hi, show (l[i] == t) = true by rw [beq_iff_eq]; exact he.symm]
        rfl
      · rw [decide_eq_true (by omega), decide_eq_true (by rw [he]; exact List.mem_cons_self)]
    · obtain ⟨r, h1, h2⟩ := idx_ex N l t hb k (i + 1) m (by omega) (by omega)
      refine ⟨r, ?_, ?_⟩
      · first | rw [get_of hi, show (t == l[i]) = false by rw [beq_eq_false_iff_ne]; exact he] | rw [get_of hi, show (l[i] == t) = false by rw [beq_eq_false_iff_ne]; exact fun h => he h.symm]
        rw [if_false?, ck_of (by omega) (by omega), cast_succ]; exact h1
      · rw [h2]
        exact decide_eq_decide.2 (by rw [List.mem_cons]; exact ⟨.inr, fun h => h.elim (fun h => absurd h he) id⟩)
theorem contains_eq (N : Nat) (l : List Str) (t : Str) (hN : l.length < N) (hb : l.length ≤ 100000) : F_slices_Contains_string_string N l t = some (decide (t ∈ l)) := by
  obtain ⟨r, h1, h2⟩ := idx_ex N l t hb l.length 0 N (by omega) hN
  have h1 : F_slices_Index_string_string N l t = some r := h1
  unfold F_slices_Contains_string_string
  rw [h1, bd_some, h2]; rfl

theorem few_loop (N : Nat) (f : Folder) (hb : f.Items.length ≤ 1010) : ∀ (k i m : Nat), i + k = f.Items.length → k < m → ∃ b, L_ref23_Few_0 N f m i = some b ∧ (b = true → ∀ s ∈ f.Items.drop i, s.length ≤ 400)
  | k, i, 0, _, h => by omega
  | 0, i, m + 1, h, _ => by
    rw [L_ref23_Few_0, dge (by omega)]
    exact ⟨true, rfl, fun _ s hs => by rw [List.drop_eq_nil_of_le (by omega)] at hs; cases hs⟩
  | k + 1, i, m + 1, h, hm => by
    have hi : i < f.Items.length := by omega
    rw [L_ref23_Few_0, dlt (by omega), if_true?, get_of hi]
    by_cases h1 : f.Items[i].length ≤ 400
    · obtain ⟨b, h2, h3⟩ := few_loop N f hb k (i + 1) m (by omega) (by omega)
      rw [show decide ((f.Items[i].length : Int) > 400) = false from decide_eq_false (by omega), if_false?, ck_of (by omega) (by omega), cast_succ]
      refine ⟨b, h2, fun hb s hs => ?_⟩
      rw [drop_cons hi] at hs
      rcases List.mem_cons.1 hs with rfl | hs
      · exact h1
      · exact h3 hb s hs
    · rw [show decide ((f.Items[i].length : Int) > 400) = true from decide_eq_true (by omega)]
      exact ⟨false, rfl, fun h => by cases h⟩
theorem few_eq (N : Nat) (f : Folder) (hN : 1100 ≤ N) : ∃ b, F_ref23_Few N f 40 = some b ∧ (b = true → ∀ s ∈ f.Items, s.length ≤ 400) := by
  unfold F_ref23_Few
  by_cases h1 : f.Items.length ≤ 40
  · obtain ⟨b, h2, h3⟩ := few_loop N f (by omega) f.Items.length 0 N (by omega) (by omega)
    rw [show decide ((f.Items.length : Int) > 40) = false from decide_eq_false (by omega), if_false?, show decide ((f.Items.length : Int) > 1010) = false from decide_eq_false (by omega), if_false?]
    exact ⟨b, h2, h3⟩
  · rw [show decide ((f.Items.length : Int) > 40) = true from decide_eq_true (by omega), if_true?]
    by_cases h2 : f.Items.length ≤ 1000
    · rw [decide_eq_true (by omega), if_true?]; exact ⟨_, rfl, fun h => by cases h⟩
    · rw [decide_eq_false (by omega), if_false?]
      by_cases h3 : f.Items.length > 1010
      · rw [decide_eq_true (by omega), if_true?]; exact ⟨_, rfl, fun h => by cases h⟩
      · obtain ⟨b, h4, h5⟩ := few_loop N f (by omega) f.Items.length 0 N (by omega) (by omega)
        rw [decide_eq_false (by omega), if_false?]; exact ⟨b, h4, h5⟩
/-- What a right folder is. -/
structure Good (N : Nat) (f : Folder) : Prop where
  g : 0 ≤ f.Gauge ∧ f.Gauge < 40
  y : 2000 ≤ f.Year ∧ f.Year < 2040
  len : f.Items.length ≤ 1000
  here : ∀ s ∈ f.Items, hr N s f.Gauge f.Year = true
  srt : Srt f.Items
theorem check_loop (N : Nat) (hN : 1100 ≤ N) (f : Folder) (hb : f.Items.length ≤ 1000) (h1 : ∀ s ∈ f.Items, s.length ≤ 400) : ∀ (k i m : Nat), i + k = f.Items.length → k < m → ∃ c : Int, L_leaf_Check_0 N f m i = some c ∧ (c = 0 → ∀ j, i ≤ j → ∀ hj : j < f.Items.length, hr N f.Items[j] f.Gauge f.Year = true ∧ (∀ h2 : 0 < j, Op.bytesLess (f.Items[j - 1]'(by omega)) f.Items[j] = true))
  | k, i, 0, _, h => by omega
  | 0, i, m + 1, h, _ => by
    rw [L_leaf_Check_0, dge (by omega)]
    exact ⟨0, rfl, fun _ j h3 h4 => by omega⟩
  | k + 1, i, m + 1, h, hm => by
    have hi : i < f.Items.length := by omega
    have hl := h1 _ (List.getElem_mem hi)
    obtain ⟨c, h3, h4⟩ := check_loop N hN f hb h1 k (i + 1) m (by omega) (by omega)
    rw [L_leaf_Check_0, dlt (by omega), if_true?, get_of hi, here_eq N (by omega) _ (by omega) (by omega)]
    have rest : ∀ (P : ∀ h2 : 0 < i, Op.bytesLess (f.Items[i - 1]'(by omega)) f.Items[i] = true), ∃ c : Int, (bd? (some (hr N f.Items[i] f.Gauge f.Year)) fun v4 => if? v4 (ck .i64 ((i : Int) + 1) (L_leaf_Check_0 N f m ((i : Int) + 1))) (some 1)) = some c ∧ (c = 0 → ∀ j, i ≤ j → ∀ hj : j < f.Items.length, hr N f.Items[j] f.Gauge f.Year = true ∧ (∀ h2 : 0 < j, Op.bytesLess (f.Items[j - 1]'(by omega)) f.Items[j] = true)) := fun P => by
      rw [bd_some]
      cases hh : hr N f.Items[i] f.Gauge f.Year with
      | false => exact ⟨1, rfl, fun h => by cases h⟩
      | true =>
        rw [if_true?, ck_of (by omega) (by omega), cast_succ]
        refine ⟨c, h3, fun hc j hj hj' => ?_⟩
        rcases Nat.lt_or_ge i j with h | h
        · exact h4 hc j (by omega) hj'
        · obtain rfl : i = j := by omega
          exact ⟨hh, P⟩
    by_cases h2 : 0 < i
    · rw [show decide ((i : Int) > 0) = true from decide_eq_true (by omega), if_true?, ck_of (by omega) (by omega), show (i : Int) - 1 = ((i - 1 : Nat) : Int) by omega, get_of (by omega)]
      cases hq : (Op.bytesLess f.Items[i] (f.Items[i - 1]'(by omega)) || f.Items[i] == (f.Items[i - 1]'(by omega))) with
      | true => exact ⟨1, rfl, fun h => by cases h⟩
      | false =>
        rw [if_false?]
        rw [Bool.or_eq_false_iff, beq_eq_false_iff_ne] at hq
        exact rest fun _ => bl_tri _ _ hq.1 hq.2
    · rw [show decide ((i : Int) > 0) = false from decide_eq_false (by omega), if_false?]
      exact rest fun h => absurd h h2
theorem srt_of {l : List Str} (h : ∀ j, ∀ hj : j < l.length, ∀ h1 : 0 < j, Op.bytesLess (l[j - 1]'(by omega)) l[j] = true) : Srt l := by
  intro i j hij
  obtain ⟨d, rfl⟩ : ∃ d, j = i + 1 + d := ⟨j - (i + 1), by omega⟩
  clear hij
  induction d with
  | zero => intro hi hj; exact h (i + 1) hj (by omega)
  | succ d ih => intro hi hj; exact bl_trans _ _ _ (ih hi (by omega)) (h (i + 1 + (d + 1)) hj (by omega))
theorem check_eq (N : Nat) (hN : 1100 ≤ N) (f : Folder) (h1 : ∀ s ∈ f.Items, s.length ≤ 400) : ∃ c : Int, F_leaf_Check N f = some c ∧ (c = 0 → Good N f) := by
  unfold F_leaf_Check
  by_cases h2 : f.Gauge < 0
  · rw [decide_eq_true h2]; exact ⟨3, rfl, fun h => by cases h⟩
  rw [decide_eq_false h2, if_false?]
  by_cases h3 : f.Gauge ≥ 40
  · rw [decide_eq_true h3]; exact ⟨3, rfl, fun h => by cases h⟩
  rw [decide_eq_false h3, if_false?]
  by_cases h4 : f.Year < 2000
  · rw [decide_eq_true h4]; exact ⟨3, rfl, fun h => by cases h⟩
  rw [decide_eq_false h4, if_false?]
  by_cases h5 : f.Year ≥ 2040
  · rw [decide_eq_true h5]; exact ⟨3, rfl, fun h => by cases h⟩
  rw [decide_eq_false h5, if_false?]
  by_cases h6 : (f.Items.length : Int) > 1000
  · rw [decide_eq_true h6]; exact ⟨2, rfl, fun h => by cases h⟩
  rw [decide_eq_false h6, if_false?]
  obtain ⟨c, c1, c2⟩ := check_loop N hN f (by omega) h1 f.Items.length 0 N (by omega) (by omega)
  refine ⟨c, c1, fun hc => ⟨by omega, by omega, by omega, fun s hs => ?_, srt_of fun j hj h7 => (c2 hc j (by omega) hj).2 h7⟩⟩
  obtain ⟨i, hi, rfl⟩ := List.getElem_of_mem hs
  exact (c2 hc i (by omega) hi).1

theorem tree_loop (N : Nat) (hN : 1100 ≤ N) (l : List Str) (hb : l.length ≤ 1000) (h1 : ∀ s ∈ l, s.length ≤ 400) : ∀ (k i m : Nat) (w : List (Arr 16)), i + k = l.length → k < m → w.length = l.length → w.take i = (l.take i).map (lf N) → L_leaf_tree_0 N l m i w = some (l.map (lf N), rt N (l.map (lf N)))
  | k, i, 0, w, _, h, _, _ => by omega
  | 0, i, m + 1, w, h, _, hw, ht => by
    rw [List.take_of_length_le (by omega), List.take_of_length_le (by omega)] at ht
    rw [L_leaf_tree_0, dge (by omega), if_false?, ht, rt_1 N (by omega) _ (by rw [List.length_map]; omega) (by rw [List.length_map]; omega)]; rfl
  | k + 1, i, m + 1, w, h, hm, hw, ht => by
    have hi : i < l.length := by omega
    rw [L_leaf_tree_0, dlt (by omega), if_true?, get_of hi, lf_1 N (by omega) _ (by have := h1 _ (List.getElem_mem hi); omega), bd_some, get_of (by omega), ck_of (by omega) (by omega), cast_succ, Int.toNat_natCast]
    refine tree_loop N hN l hb h1 k (i + 1) m _ (by omega) (by omega) (by rw [List.length_set]; exact hw) ?_
    rw [← List.take_append_getElem (by rw [List.length_set]; omega), ← List.take_append_getElem hi, List.map_append, List.take_set_of_le (Nat.le_refl _), ht, List.getElem_set_self]; rfl
theorem tree_eq (N : Nat) (hN : 1100 ≤ N) (l : List Str) (hb : l.length ≤ 1000) (h1 : ∀ s ∈ l, s.length ≤ 400) : F_leaf_tree N l = some (l.map (lf N), rt N (l.map (lf N))) := by
  unfold F_leaf_tree
  rw [gd_of (by omega), gd_of (by omega), gd_of (by omega)]
  exact tree_loop N hN l hb h1 l.length 0 N _ (by omega) (by omega) (by rw [List.length_replicate]; omega) rfl
def sl (N : Nat) (g y n : Int) (d : Arr 16) : Arr 16 := (F_leaf_seal N g y n d).getD default
theorem seal_eq (N : Nat) (hN : 100 ≤ N) (g y n : Int) (d : Arr 16) (hg : I64 g) (hy : I64 y) (hn : I64 n) : F_leaf_seal N g y n d = some (sl N g y n d) := D_of (by
  unfold F_leaf_seal
  rw [Int_enc N g (by omega) hg, bd_some, Int_enc N y (by omega) hy, bd_some, Int_enc N n (by omega) hn, bd_some]
  obtain ⟨r, h⟩ := Of_tot N hN 186 [bytesI (intsS (uvarint (zigzag g))), bytesI (intsS (uvarint (zigzag y))), bytesI (intsS (uvarint (zigzag n))), bytesI d.l] (by simp) (by
    have h1 := wi_len hg
    have h2 := wi_len hy
    have h3 := wi_len hn
    intro s hs
    simp only [List.mem_cons, List.not_mem_nil, or_false] at hs
    rcases hs with rfl | rfl | rfl | rfl
    · rw [bytesI_len, intsS_len]; omega
    · rw [bytesI_len, intsS_len]; omega
    · rw [bytesI_len, intsS_len]; omega
    · rw [bytesI_len, Arr.len]; omega)
  rw [h, bd_some]; exact ⟨_, rfl⟩)
end Go.Proofs.Tryd
namespace Go.Proofs.Tryd
open Go.Eng Go.Lib

theorem xor_ne (x y : Int) (hy : BitVec.ofInt 8 y ≠ 0#8) : bits .xor .u8 x y ≠ x := by
  intro h
  have e : bits .xor .u8 x y = IntKind.wrap .u8 ((BitVec.ofInt 8 x ^^^ BitVec.ofInt 8 y).toNat : Int) := rfl
  rw [e, q8w (by omega) (by have := (BitVec.ofInt 8 x ^^^ BitVec.ofInt 8 y).isLt; omega)] at h
  have h1 : BitVec.ofInt 8 x ^^^ BitVec.ofInt 8 y = BitVec.ofInt 8 x := by
    have := congrArg (BitVec.ofInt 8) h
    rwa [BitVec.ofInt_natCast, BitVec.ofNat_toNat, BitVec.setWidth_eq] at this
  apply hy
  have h2 := congrArg (fun z => BitVec.ofInt 8 x ^^^ z) h1
  simpa [← BitVec.xor_assoc] using h2
theorem pow_ne : ∀ k : Fin 8, BitVec.ofInt 8 (IntKind.wrap .u8 (1 * 2 ^ k.val)) ≠ 0#8 := by decide +kernel
theorem set_ne (R : Arr 16) (j : Nat) (hj : j < R.l.length) (k : Nat) (hk : k < 8) : ((R.set j (bits .xor .u8 R.l[j] (IntKind.wrap .u8 (1 * 2 ^ k)))).l == R.l) = false := by
  rw [beq_eq_false_iff_ne, Arr.l_set]
  intro h
  have h1 := congrArg (fun l => l[j]?) h
  simp only [List.getElem?_set_self hj, List.getElem?_eq_getElem hj, Option.some.injEq] at h1
  exact xor_ne _ _ (pow_ne ⟨k, hk⟩) h1
theorem acc_here (N : Nat) (hN : 1100 ≤ N) (R : Arr 16) (g y : Int) (t : Str) (ht : t.length ≤ 400) (p : Proof) (hc : p.Count ≤ 1000) (h : hr N t g y = false) : F_leaf_Accept N R g y t p = some false := by
  unfold F_leaf_Accept
  rw [decide_eq_false (by omega), if_false?, here_eq N (by omega) t (by omega) (by omega), bd_some, h]; rfl
theorem acc_root (N : Nat) (hN : 1100 ≤ N) (R : Arr 16) (g y : Int) (t : Str) (ht : t.length ≤ 400) (p : Proof) (hc : 0 ≤ p.Count ∧ p.Count ≤ 1000) (hg : I64 g) (hy : I64 y) (h : hr N t g y = true) (hR : (R.l == (sl N g y p.Count p.Top).l) = false) : F_leaf_Accept N R g y t p = some false := by
  unfold F_leaf_Accept
  rw [decide_eq_false (by omega), if_false?, here_eq N (by omega) t (by omega) (by omega), bd_some, h, if_true?, seal_eq N (by omega) g y _ _ hg hy (by unfold I64; omega), bd_some, hR, if_false?]
theorem acc_ok (N : Nat) (hN : 1100 ≤ N) (g y : Int) (t : Str) (ht : t.length ≤ 400) (p : Proof) (hc : 0 ≤ p.Count ∧ p.Count ≤ 1000) (hg : I64 g) (hy : I64 y) (h : hr N t g y = true) (hC : F_merkle_CheckInclusion N (lf N t) p.At p.Count p.Path p.Top = some true) : F_leaf_Accept N (sl N g y p.Count p.Top) g y t p = some true := by
  unfold F_leaf_Accept
  rw [decide_eq_false (by omega), if_false?, here_eq N (by omega) t (by omega) (by omega), bd_some, h, if_true?, seal_eq N (by omega) g y _ _ hg hy (by unfold I64; omega), bd_some, beq_self_eq_true, if_true?, lf_1 N (by omega) t (by omega), bd_some, hC, bd_some]
theorem den_here (N : Nat) (hN : 1100 ≤ N) (R : Arr 16) (g y : Int) (t : Str) (ht : t.length ≤ 400) (p : Absence) (hc : 0 ≤ p.At ∧ p.At ≤ p.Count ∧ p.Count ≤ 1000) (h : hr N t g y = false) : F_leaf_Denied N R g y t p = some false := by
  unfold F_leaf_Denied
  rw [gd_of (decide_eq_false (by omega)), gd_of (decide_eq_false (by omega)), gd_of (decide_eq_false (by omega)), here_eq N (by omega) t (by omega) (by omega), bd_some, h]; rfl
theorem den_root (N : Nat) (hN : 1100 ≤ N) (R : Arr 16) (g y : Int) (t : Str) (ht : t.length ≤ 400) (p : Absence) (hc : 0 ≤ p.At ∧ p.At ≤ p.Count ∧ p.Count ≤ 1000) (hg : I64 g) (hy : I64 y) (h : hr N t g y = true) (hR : (R.l == (sl N g y p.Count p.Top).l) = false) : F_leaf_Denied N R g y t p = some false := by
  unfold F_leaf_Denied
  rw [gd_of (decide_eq_false (by omega)), gd_of (decide_eq_false (by omega)), gd_of (decide_eq_false (by omega)), here_eq N (by omega) t (by omega) (by omega), bd_some, h, if_true?, seal_eq N (by omega) g y _ _ hg hy (by unfold I64; omega), bd_some, hR, if_false?]
/-- A side of a place: nothing there, or an item with a proof. -/
def Side (N : Nat) (b : Bool) (s : Str) (at_ n : Int) (path : List (Arr 16)) (top : Arr 16) (ord : Bool) : Prop :=
  (b = false ∧ s = [] ∧ path = []) ∨ (b = true ∧ s ≠ [] ∧ s.length ≤ 400 ∧ ord = true ∧ F_merkle_CheckInclusion N (lf N s) at_ n path top = some true)
theorem den_ok (N : Nat) (hN : 1100 ≤ N) (g y : Int) (t : Str) (ht : t.length ≤ 400) (p : Absence) (hc : 0 ≤ p.At ∧ p.At ≤ p.Count ∧ p.Count ≤ 1000) (hg : I64 g) (hy : I64 y) (h : hr N t g y = true)
    (h1 : p.Count = 0 → p.Top = emp N) (hl : Side N (decide (p.At > 0)) p.Before (p.At - 1) p.Count p.Left p.Top (Op.bytesLess p.Before t)) (hr' : Side N (decide (p.At < p.Count)) p.After p.At p.Count p.Right p.Top (Op.bytesLess t p.After)) : F_leaf_Denied N (sl N g y p.Count p.Top) g y t p = some true := by
  have hz : ∀ l : List (Arr 16), l = [] → ((l.length : Int) == 0) = true := fun l e => by rw [e]; rfl
  have hem : (([] : Str) == []) = true := rfl
  unfold F_leaf_Denied
  rw [gd_of (decide_eq_false (by omega)), gd_of (decide_eq_false (by omega)), gd_of (decide_eq_false (by omega)), here_eq N (by omega) t (by omega) (by omega), bd_some, h, if_true?, seal_eq N (by omega) g y _ _ hg hy (by unfold I64; omega), bd_some, beq_self_eq_true, if_true?]
  by_cases e0 : p.Count = 0
  · rcases hl with ⟨l1, l2, l3⟩ | ⟨l1, _⟩
    · rcases hr' with ⟨r1, r2, r3⟩ | ⟨r1, _⟩
      · rw [show (p.Count == 0) = true by rw [beq_iff_eq]; exact e0, if_true?, rt_1 N (by omega) [] (by show 0 < N; omega) (by simp), bd_some, rt_nil N (by omega), gd_of (by rw [h1 e0, beq_self_eq_true]), l2, r2, gd_of hem, gd_of hem, gd_of l1, gd_of r1, gd_of (hz _ l3), hz _ r3]
      · rw [decide_eq_true_eq] at r1; omega
    · rw [decide_eq_true_eq] at l1; omega
  · rw [show (p.Count == 0) = false by rw [beq_eq_false_iff_ne]; exact e0, if_false?]
    rcases hl with ⟨l1, l2, l3⟩ | ⟨l1, l2, l3, l4, l5⟩
    · rcases hr' with ⟨r1, r2, r3⟩ | ⟨r1, r2, r3, r4, r5⟩
      · rw [decide_eq_false_iff_not] at l1 r1; omega
      · rw [l2, hem, if_true?, show (p.After == []) = false by rw [beq_eq_false_iff_ne]; exact r2, if_false?, gd_of l1, gd_of r1, r4, if_true?, lf_1 N (by omega) _ (by omega), bd_some, r5, bd_some, gd_of (hz _ l3)]
    · have hk : p.At - 1 ≤ 9223372036854775807 ∧ -9223372036854775808 ≤ p.At - 1 := by omega
      rw [show (p.Before == []) = false by rw [beq_eq_false_iff_ne]; exact l2, if_false?]
      rcases hr' with ⟨r1, r2, r3⟩ | ⟨r1, r2, r3, r4, r5⟩
      · rw [r2, hem, if_true?, gd_of l1, gd_of l4, lf_1 N (by omega) _ (by omega), bd_some, ck_of hk.2 hk.1, l5, bd_some, gd_of r1, gd_of rfl, hz _ r3]
      · rw [show (p.After == []) = false by rw [beq_eq_false_iff_ne]; exact r2, if_false?, gd_of l1, gd_of l4, lf_1 N (by omega) _ (by omega), bd_some, ck_of hk.2 hk.1, l5, bd_some, gd_of r1, r4, if_true?, lf_1 N (by omega) _ (by omega), bd_some, r5, bd_some, gd_of rfl]
theorem where_nil (N : Nat) (hN : 100 ≤ N) : F_leaf_Where N [] = some (0, 0, 11) := by
  have h1 : ((grd []).2 != 0) = true := by rfl
  have h2 : ((gvr []).2 != 0) = true := by rfl
  have h3 : ((gbl []).2 != 0) = true := by rfl
  unfold F_leaf_Where F_leaf_kinds F_leaf_kinds_1 F_leaf_kinds_2 F_leaf_kinds_3
  rw [bd_some, GetReading_eq N [] (by omega) (by show 0 < N; omega) (by simp), bd_some, bd_some, h1, if_true?, GetVersion_eq N [] (by omega) (by show 0 + 1 < N; omega) (by simp), bd_some, bd_some, h2, if_true?, GetBlock_eq N [] (by omega) (by show 0 + 1 < N; omega) (by simp), bd_some, bd_some, h3, if_true?]
theorem here_ne (N : Nat) (hN : 100 ≤ N) {s : Str} {g y : Int} (h : hr N s g y = true) : s ≠ [] := by
  rintro rfl
  unfold hr wh at h
  rw [where_nil N hN] at h
  exact absurd h (by simp)

theorem law9_eq (N : Nat) (hN : 7000 ≤ N) (hs : F_law23_sanity N = some true) (f : Folder) (t : Str) (n : Nat) (hn : n < 256) : F_law23_LeafProofsAreAccepted N f t (n : Int) = some true := by
  unfold F_law23_LeafProofsAreAccepted
  obtain ⟨b, b1, b2⟩ := few_eq N f (by omega)
  rw [hs, bd_some, if_true?, b1, bd_some]
  cases b with
  | false => rw [if_false?]
  | true =>
  have h1 := b2 rfl
  rw [if_true?]
  by_cases h2 : f.Items.length > 40
  · rw [decide_eq_true (by omega), if_true?]
  rw [decide_eq_false (by omega), if_false?]
  by_cases ht : t.length > 400
  · rw [decide_eq_true (by omega), if_true?]
  rw [decide_eq_false (by omega), if_false?]
  obtain ⟨c, c1, c2⟩ := check_eq N (by omega) f h1
  rw [c1, bd_some]
  by_cases hc : c = 0
  case neg => rw [show (c != 0) = true by rw [bne_iff_ne]; exact hc, if_true?]
  subst hc
  have G := c2 rfl
  have n0 : ((0 : Int) != 0) = false := rfl
  have gI : I64 f.Gauge := by have := G.g; unfold I64; omega
  have yI : I64 f.Year := by have := G.y; unfold I64; omega
  have g1 := G.g
  have y1 := G.y
  have len1 := G.len
  have hT := tree_eq N (by omega) f.Items G.len h1
  have LL : (f.Items.map (lf N)).length = f.Items.length := List.length_map _
  have LR : ∀ q : Str, ∀ k : Nat, ∀ hk : k < f.Items.length, f.Items[k] = q → ∃ v, F_merkle_Inclusion N (f.Items.map (lf N)) (k : Int) = some (v, 0) ∧ F_merkle_CheckInclusion N (lf N q) (k : Int) (f.Items.length : Int) v (rt N (f.Items.map (lf N))) = some true := fun q k hk e => by
    obtain ⟨v, v1, v2⟩ := incl_acc N (by omega) (f.Items.map (lf N)) k (lf N q) (by rw [List.getElem?_map, List.getElem?_eq_getElem hk, e]; rfl) (by omega) (by omega) (by omega)
    rw [LL] at v2
    exact ⟨v, v1, v2⟩
  generalize hL : f.Items.map (lf N) = L at *
  generalize htop : rt N L = top at *
  have hR : F_leaf_Root N f = some (sl N f.Gauge f.Year (f.Items.length : Int) top, 0) := by
    unfold F_leaf_Root
    rw [c1, bd_some, n0, if_false?, hT, bd_some, seal_eq N (by omega) _ _ _ _ gI yI (by unfold I64; omega), bd_some]
  obtain ⟨k, b, hb, hF⟩ := bs_eq N f.Items t (by omega) (by omega) G.srt
  have hC := contains_eq N f.Items t (by omega) (by omega)
  have hW := Where_eq N (by omega) t (by omega) (by omega)
  have hH := here_eq N (by omega) t (by omega) (by omega) f.Gauge f.Year
  rw [n0, if_false?, hR, bd_some]
  have hmem : t ∈ f.Items → hr N t f.Gauge f.Year = true := fun h => G.here t h
  cases hq : hr N t f.Gauge f.Year with
  | false =>
    have hnm : t ∉ f.Items := fun h => by rw [hmem h] at hq; cases hq
    have hbf : b = false := by
      cases b with
      | false => rfl
      | true =>
        obtain ⟨h3, h4⟩ := hF.2.2.1 rfl
        exact absurd (h4 ▸ List.getElem_mem h3) hnm
    subst hbf
    have hP : F_leaf_Prove N f t = some (Proof.mk 0 0 (Arr.zero 16) [], 8) := by
      unfold F_leaf_Prove
      rw [c1, bd_some, n0, if_false?, hb, bd_some]; rfl
    have hD : F_leaf_Deny N f t = some (Absence.mk 0 0 (Arr.zero 16) ([] : Str) ([] : Str) [] [], 1) := by
      unfold F_leaf_Deny
      rw [c1, bd_some, n0, if_false?, hH, hq, bd_some]; rfl
    rw [hP, bd_some, hD, bd_some, hC, decide_eq_false hnm, bd_some, n0, if_false?, hW, bd_some]
    unfold hr at hq
    simp only [if_false?, if_true?, show ((8 : Int) == 8) = true from rfl, show ((1 : Int) == 1) = true from rfl]
    cases e1 : (wh N t).2.2 != 0 with
    | true => rfl
    | false =>
      cases e2 : (wh N t).1 != f.Gauge with
      | true => rfl
      | false =>
        cases e3 : (wh N t).2.1 != f.Year with
        | true => rfl
        | false =>
          rw [bne_eq_false_iff_eq] at e1 e2 e3
          rw [e1, e2, e3] at hq
          simp at hq
  | true =>
    have hw := hq
    unfold hr at hw
    simp only [Bool.and_eq_true, beq_iff_eq] at hw
    obtain ⟨w1, w2, w3⟩ := hw
    have e1 : ((wh N t).2.2 != 0) = false := by rw [w1]; rfl
    have e2 : ((wh N t).1 != f.Gauge) = false := by rw [w2]; simp
    have e3 : ((wh N t).2.1 != f.Year) = false := by rw [w3]; simp
    have hy2 : hr N t f.Gauge (f.Year + 1) = false := by
      unfold hr
      rw [show ((wh N t).2.1 == f.Year + 1) = false by rw [beq_eq_false_iff_ne]; omega]; simp
    have hg2 : hr N t (f.Gauge + 1) f.Year = false := by
      unfold hr
      rw [show ((wh N t).1 == f.Gauge + 1) = false by rw [beq_eq_false_iff_ne]; omega]; simp
    have d1 : Int.tdiv (n : Int) 8 = ((n / 8 : Nat) : Int) := (Int.ofNat_tdiv n 8).symm
    have d2 : IntKind.wrap .u8 ((n / 8 : Nat) : Int) = ((n / 8 : Nat) : Int) := q8w (by omega) (by omega)
    have d3 : Int.tmod ((n / 8 : Nat) : Int) 16 = ((n / 8 % 16 : Nat) : Int) := (Int.ofNat_tmod (n / 8) 16).symm
    have d4 : Int.tmod (n : Int) 8 = ((n % 8 : Nat) : Int) := (Int.ofNat_tmod n 8).symm
    have eb : (IntKind.bits .u8 : Int) = 8 := rfl
    generalize hRR : sl N f.Gauge f.Year (f.Items.length : Int) top = R at *
    have hj : n / 8 % 16 < R.l.length := by rw [Arr.len]; omega
    have hne := set_ne R (n / 8 % 16) hj (n % 8) (by omega)
    cases b with
    | true =>
      obtain ⟨p1, p2⟩ := hF.2.2.1 rfl
      have hm : t ∈ f.Items := p2 ▸ List.getElem_mem p1
      obtain ⟨v, v1, v2⟩ := LR t k p1 p2
      have hP : F_leaf_Prove N f t = some (Proof.mk (k : Int) (f.Items.length : Int) top v, 0) := by
        unfold F_leaf_Prove
        rw [c1, bd_some, n0, if_false?, hb, bd_some, if_true?, hT, bd_some]
        simp only
        rw [v1, bd_some, LL]
      have hD : F_leaf_Deny N f t = some (Absence.mk 0 0 (Arr.zero 16) ([] : Str) ([] : Str) [] [], 9) := by
        unfold F_leaf_Deny
        rw [c1, bd_some, n0, if_false?, hH, hq, bd_some, if_true?, hb, bd_some]; rfl
      have a1 := acc_ok N (by omega) f.Gauge f.Year t (by omega) (Proof.mk (k : Int) (f.Items.length : Int) top v) ⟨by show 0 ≤ (f.Items.length : Int); omega, by show (f.Items.length : Int) ≤ 1000; omega⟩ gI yI hq v2
      have a2 := acc_root N (by omega) (R.set (n / 8 % 16) (bits .xor .u8 R.l[n / 8 % 16] (IntKind.wrap .u8 (1 * 2 ^ (n % 8))))) f.Gauge f.Year t (by omega) (Proof.mk (k : Int) (f.Items.length : Int) top v) ⟨by show 0 ≤ (f.Items.length : Int); omega, by show (f.Items.length : Int) ≤ 1000; omega⟩ gI yI hq (by rw [hRR]; exact hne)
      have a3 := acc_here N (by omega) R f.Gauge (f.Year + 1) t (by omega) (Proof.mk (k : Int) (f.Items.length : Int) top v) (by show (f.Items.length : Int) ≤ 1000; omega) hy2
      have a1 : F_leaf_Accept N (sl N f.Gauge f.Year (f.Items.length : Int) top) f.Gauge f.Year t (Proof.mk (k : Int) (f.Items.length : Int) top v) = some true := a1
      rw [hRR] at a1
      rw [hP, bd_some, hD, bd_some, hC, decide_eq_true hm, bd_some]
      simp only
      rw [n0, if_false?, hW, bd_some, e1, if_false?, e2, if_false?, e3, if_false?, d1, d2, d3, d4, gd_of (by omega), gd_of (by omega), get_of hj, gd_of (by omega), gd_of (by omega), if_true?]
      rw [show ((0 : Int) == 0) = true from rfl, if_true?, show ((9 : Int) == 9) = true from rfl, if_true?, a1, bd_some, if_true?, Int.toNat_natCast, Int.toNat_natCast, a2, bd_some, if_false?, ck_of (by omega) (by omega), a3, bd_some]; rfl
    | false =>
      have hm := (hF.2.2.2 rfl).2
      have hgt := (hF.2.2.2 rfl).1
      have hlt := hF.2.1
      have hkl := hF.1
      have hP : F_leaf_Prove N f t = some (Proof.mk 0 0 (Arr.zero 16) [], 8) := by
        unfold F_leaf_Prove
        rw [c1, bd_some, n0, if_false?, hb, bd_some]; rfl
      have hD : ∃ a : Absence, F_leaf_Deny N f t = some (a, 0) ∧ a.At = (k : Int) ∧ a.Count = (f.Items.length : Int) ∧ a.Top = top ∧ Side N (decide (a.At > 0)) a.Before (a.At - 1) a.Count a.Left a.Top (Op.bytesLess a.Before t) ∧ Side N (decide (a.At < a.Count)) a.After a.At a.Count a.Right a.Top (Op.bytesLess t a.After) := by
        have L1 : ∃ s q, (∀ X : Str → List (Arr 16) × Int → Option (Absence × Int), (0 < k → (ck .i64 ((k : Int) - 1) (get? f.Items ((k : Int) - 1) fun x5 => bd? (F_merkle_Inclusion N L ((k : Int) - 1)) fun v6 => X x5 v6)) = X s (q, 0))) ∧ Side N (decide ((k : Int) > 0)) s ((k : Int) - 1) (f.Items.length : Int) q top (Op.bytesLess s t) := by
          by_cases h5 : 0 < k
          · obtain ⟨v, v1, v2⟩ := LR _ (k - 1) (by omega) rfl
            rw [show ((k - 1 : Nat) : Int) = (k : Int) - 1 by omega] at v1 v2
            refine ⟨f.Items[k - 1]'(by omega), v, fun X _ => ?_, .inr ⟨decide_eq_true (by omega), here_ne N (by omega) (G.here _ (List.getElem_mem _)), h1 _ (List.getElem_mem _), hlt (k - 1) (by omega) (by omega), v2⟩⟩
            rw [ck_of (by omega) (by omega), v1, show (k : Int) - 1 = ((k - 1 : Nat) : Int) by omega, get_of (by omega), bd_some]
          · exact ⟨[], [], fun X h => absurd h h5, .inl ⟨decide_eq_false (by omega), rfl, rfl⟩⟩
        have R1 : ∃ s q, (∀ X : Str → List (Arr 16) × Int → Option (Absence × Int), (k < f.Items.length → (get? f.Items (k : Int) fun x5 => bd? (F_merkle_Inclusion N L (k : Int)) fun v6 => X x5 v6) = X s (q, 0))) ∧ Side N (decide ((k : Int) < (f.Items.length : Int))) s (k : Int) (f.Items.length : Int) q top (Op.bytesLess t s) ∧ (¬ k < f.Items.length → s = [] ∧ q = []) := by
          by_cases h5 : k < f.Items.length
          · obtain ⟨v, v1, v2⟩ := LR _ k h5 rfl
            refine ⟨f.Items[k], v, fun X _ => ?_, .inr ⟨decide_eq_true (by omega), here_ne N (by omega) (G.here _ (List.getElem_mem _)), h1 _ (List.getElem_mem _), hgt h5, v2⟩, fun h => absurd h5 h⟩
            rw [v1, get_of h5, bd_some]
          · exact ⟨[], [], fun X h => absurd h h5, .inl ⟨decide_eq_false (by omega), rfl, rfl⟩, fun _ => ⟨rfl, rfl⟩⟩
        obtain ⟨s1, q1, l1, l2⟩ := L1
        obtain ⟨s2, q2, r1, r2, r3⟩ := R1
        have hpre : F_leaf_Deny N f t = if? (decide ((k : Int) > 0)) (ck .i64 ((k : Int) - 1) (get? f.Items ((k : Int) - 1) fun x5 => bd? (F_merkle_Inclusion N L ((k : Int) - 1)) fun v6 => if? (decide ((k : Int) < (L.length : Int))) (get? f.Items (k : Int) fun x7 => bd? (F_merkle_Inclusion N L (k : Int)) fun v8 => some ((Absence.mk (k : Int) (L.length : Int) top x5 x7 v6.1 v8.1), 0)) (some ((Absence.mk (k : Int) (L.length : Int) top x5 ([] : Str) v6.1 []), 0)))) (if? (decide ((k : Int) < (L.length : Int))) (get? f.Items (k : Int) fun x9 => bd? (F_merkle_Inclusion N L (k : Int)) fun v10 => some ((Absence.mk (k : Int) (L.length : Int) top ([] : Str) x9 [] v10.1), 0)) (some ((Absence.mk (k : Int) (L.length : Int) top ([] : Str) ([] : Str) [] []), 0))) := by
          unfold F_leaf_Deny
          rw [c1, bd_some, n0, if_false?, hH, hq, bd_some, if_true?, hb, bd_some]
          simp only
          rw [if_false?, hT, bd_some]
        have hne2 : ¬ 0 < k → s1 = [] ∧ q1 = [] := fun h => by
          rcases l2 with ⟨_, a, b⟩ | ⟨a, _⟩
          · exact ⟨a, b⟩
          · rw [decide_eq_true_eq] at a; omega
        refine ⟨Absence.mk (k : Int) (f.Items.length : Int) top s1 s2 q1 q2, ?_, rfl, rfl, rfl, l2, r2⟩
        rw [hpre, LL]
        by_cases h5 : 0 < k
        · rw [decide_eq_true (by omega), if_true?, l1 _ h5]
          by_cases h6 : k < f.Items.length
          · rw [decide_eq_true (by omega), if_true?, r1 _ h6]
          · rw [decide_eq_false (by omega), if_false?, (r3 h6).1, (r3 h6).2]
        · rw [decide_eq_false (by omega), if_false?, (hne2 h5).1, (hne2 h5).2]
          by_cases h6 : k < f.Items.length
          · rw [decide_eq_true (by omega), if_true?, r1 _ h6]
          · rw [decide_eq_false (by omega), if_false?, (r3 h6).1, (r3 h6).2]
      obtain ⟨a, hD, i1, i2, i3, i4, i5⟩ := hD
      have i6 : 0 ≤ a.At ∧ a.At ≤ a.Count ∧ a.Count ≤ 1000 := by omega
      have a1 := den_ok N (by omega) f.Gauge f.Year t (by omega) a i6 gI yI hq (fun h => by
        have : f.Items = [] := List.length_eq_zero_iff.1 (by omega)
        rw [i3, ← htop, ← hL, this]; exact rt_nil N (by omega)) i4 i5
      rw [i2, i3, hRR] at a1
      have a2 := den_root N (by omega) (R.set (n / 8 % 16) (bits .xor .u8 R.l[n / 8 % 16] (IntKind.wrap .u8 (1 * 2 ^ (n % 8))))) f.Gauge f.Year t (by omega) a i6 gI yI hq (by rw [i2, i3, hRR]; exact hne)
      have a3 := den_here N (by omega) R (f.Gauge + 1) f.Year t (by omega) a i6 hg2
      rw [hP, bd_some, hD, bd_some, hC, decide_eq_false hm, bd_some]
      simp only
      rw [n0, if_false?, hW, bd_some, e1, if_false?, e2, if_false?, e3, if_false?, d1, d2, d3, d4, gd_of (by omega), gd_of (by omega), get_of hj, gd_of (by omega), gd_of (by omega), if_false?]
      rw [show ((8 : Int) == 8) = true from rfl, if_true?, show ((0 : Int) == 0) = true from rfl, if_true?, a1, bd_some, if_true?, Int.toNat_natCast, Int.toNat_natCast, a2, bd_some, if_false?, ck_of (by omega) (by omega), a3, bd_some]; rfl
theorem sanity_7000 : F_law23_sanity 7000 = some true := by kernel_rfl
theorem law9_all (N : Nat) (hN : N = 7000) (f : Folder) (t : Str) (n : Int) {A B : Prop} (_ : A) (_ : B) (hn : IntKind.min .u8 ≤ n ∧ n ≤ IntKind.max .u8) : F_law23_LeafProofsAreAccepted N f t n = some true := by
  subst hN
  have e1 : IntKind.min .u8 = 0 := by decide
  have e2 : IntKind.max .u8 = 255 := by decide
  rw [e1, e2] at hn
  obtain ⟨k, rfl⟩ : ∃ k : Nat, n = (k : Int) := ⟨n.toNat, by omega⟩
  exact law9_eq 7000 (by omega) sanity_7000 f t k (by omega)
end Go.Proofs.Tryd
namespace Go.Proofs.Tryd
open Go.Eng Go.RowKit Go.ChangeShapes Go.WideShapes Go.ChangeAt
def Folder.ok (x : Folder) : Prop := (IntKind.min .i64 ≤ x.Gauge ∧ x.Gauge ≤ IntKind.max .i64) ∧ (IntKind.min .i64 ≤ x.Year ∧ x.Year ≤ IntKind.max .i64) ∧ (x.Items.length ≤ 9223372036854775807 ∧ ∀ y ∈ x.Items, (fun y : Str => y.length ≤ 9223372036854775807) y)
theorem Folder.cv : Cv prog 66 Folder.row 3 Folder.ok :=
  Cv.struct underlying66 (by kernel_rfl) (fun _ => rfl) fun G cs hl h => by
    obtain ⟨a0, h1, r0⟩ := h 0 _ rfl (Cv.int underlying3 (by kernel_rfl))
    obtain ⟨a1, h2, r1⟩ := h 1 _ rfl (Cv.int underlying3 (by kernel_rfl))
    obtain ⟨a2, h3, r2⟩ := h 2 _ rfl (Cv.slice (Cv.string underlying9 (by kernel_rfl)) (by decide) underlying64 (by kernel_rfl))
    exact ⟨⟨a0, a1, a2⟩, ⟨h1, h2, h3⟩, CRep.cons (o := 0) r0 (CRep.cons r1 (CRep.cons r2 (CRep.fin hl)))⟩
end Go.Proofs.Tryd
namespace Go.Proofs.YtjhhgpencphgoaaDoor
open Go.Eng Go.RowKit Go.ChangeShapes Go.WideShapes Go.ChangeAt
theorem Tryd.own : ownKnob Tryd.prog.godebug = none := by kernel_rfl
theorem Tryd.laidOut : laidOutB Tryd.prog = true := by kernel_rfl
theorem Tryd.g2 : Tryd.prog.globalNamed "rivermark/calendar.lengths" = some 2 := by kernel_rfl
theorem Tryd.gt2 : (Tryd.prog.globals[2]?).map (·.type) = some 232 := by kernel_rfl
theorem Tryd.g3 : Tryd.prog.globalNamed "rivermark/hash.constants" = some 3 := by kernel_rfl
theorem Tryd.gt3 : (Tryd.prog.globals[3]?).map (·.type) = some 238 := by kernel_rfl
/-- A world in which the listed variables hold what the row says. -/
noncomputable def laidWorld (os : Os) : World :=
  { World.holding Tryd.prog os ⟨#[], #[], []⟩ with heap := (((World.holding Tryd.prog os ⟨#[], #[], []⟩).heap.modify 2 fun
      | .cells _ t frozen => .cells (gl2.map fun z => Value.int .i64 z).toArray t frozen
      | o => o).modify 3 fun
      | .cells _ t frozen => .cells (gl3.map fun z => Value.int .u32 z).toArray t frozen
      | o => o) }
theorem laid_met (os : Os) (args : Array Value) : laidMet Tryd.prog Rows.leafProofsAreAcceptedRow.laid ((laidWorld os).forCall (fun _ _ => 0) ⟨#[], args, []⟩).memory :=
  laidMet_of_run' 8 (by kernel_rfl) (by kernel_rfl)
theorem glOk {W : World} (hL : laidMet Tryd.prog [("rivermark/calendar.lengths", Lib.tabData .i64 gl2), ("rivermark/hash.constants", Lib.tabData .u32 gl3)] W) : GlOk (gOf W) := by
  have t2 := glOk_tab (Lib.tabIs_of_head Tryd.g2 Tryd.gt2 Tryd.underlying232 Tryd.underlying3 (by kernel_rfl) (by kernel_rfl) hL) Tryd.g2
  have l0 := laidMet.tail hL
  have t3 := glOk_tab (Lib.tabIs_of_head Tryd.g3 Tryd.gt3 Tryd.underlying238 Tryd.underlying201 (by kernel_rfl) (by kernel_rfl) l0) Tryd.g3
  intro g ds h
  unfold glOf at h
  split at h
  · cases h; exact t2
  · cases h; exact t3
  · cases h
set_option maxRecDepth 100000 in
theorem proofs9_lifted (hc : ∀ (x0 : Go.Proofs.Tryd.Folder) (x1 : Str) (x2 : Int), (Go.Proofs.Tryd.Folder.ok x0) → (x1.length ≤ 9223372036854775807) → (IntKind.min .u8 ≤ x2 ∧ x2 ≤ IntKind.max .u8) →  ACall Tryd.prog 9 [.agg (x0.row.map .D), .D (.S x1), .D (.I .u8 x2)] [] (.D (.B true)) [] [])
    (os : Os) (started : os.Started) (H : Type) (enc : TypeId × Value → H) :
    ReturnsInHanded {} Tryd.checked os 9 .any (fun w args => (Rows.leafProofsAreAcceptedSpec.pre enc Tryd.prog Tryd.f9 Rows.leafProofsAreAcceptedRow.domain false w args ∧ laidMet Tryd.prog Rows.leafProofsAreAcceptedRow.laid w) ∧ sizedMet enc Tryd.prog Tryd.f9 (OpenSpec.ofChange Rows.leafProofsAreAcceptedSpec) false w args) (Rows.leafProofsAreAcceptedSpec.post enc Tryd.prog Tryd.f9 false true false false) := by
  refine returnsInHanded_of_change_and (C := Tryd.checked) (X := fun w _ => laidMet Tryd.prog Rows.leafProofsAreAcceptedRow.laid w) (fun _ _ _ hh h => laidMet.of_heap hh h) Tryd.own started (by kernel_rfl) Tryd.func9
    (ChangeSpec.witness_at (enc := enc) (C := Tryd.checked) (os := os) (X := fun w _ => laidMet Tryd.prog Rows.leafProofsAreAcceptedRow.laid w) false (laidWorld os) #[.agg #[.int .i64 0, .int .i64 0, .slice none 0 0], .string ⟨#[]⟩, .int .u8 0] 8 rfl (by kernel_rfl) (by kernel_rfl) (by kernel_rfl) (by kernel_rfl) (by kernel_rfl) (laid_met os _)) ?_
  intro W base args ds gs before hval0 hW _ _ hL _
  have hval : ∀ (j : Nat) t v, Tryd.f9.params[j]? = some t → args[j]? = some v → Value.okWide Tryd.prog W .any base t v := hval0
  have hW' := hW
  obtain ⟨p, q, hA0, hV, rfl, hfz, hnd⟩ := hW
  have hA : DataW.TrodAll enc Tryd.prog W 0 (fun _ => true) true Tryd.f9.params.toList args.toList ds p := hA0
  rw [Tryd.params9] at hA hval
  obtain ⟨v0, vs1, d0, ds1, p0, p1, e0, rfl, _, t0, hA1⟩ := trodAll_cons hA
  obtain ⟨v1, vs2, d1, ds2, _, _, rfl, rfl, _, t1, hA2⟩ := trodAll_cons hA1
  obtain ⟨v2, vs3, d2, ds3, _, _, rfl, rfl, _, t2, hA3⟩ := trodAll_cons hA2
  obtain ⟨rfl, rfl, _⟩ := trodAll_nil hA3
  obtain ⟨rfl, rfl⟩ := trodVars_none hV
  have hargs : args = #[v0, v1, v2] := by rw [← Array.toArray_toList (xs := args), e0]
  subst hargs
  obtain ⟨w0, rfl, _⟩ := okWide_struct Tryd.underlying66 (hval 0 66 v0 rfl rfl)
  obtain ⟨w1, rfl⟩ := okWide_string Tryd.underlying9 (hval 1 9 v1 rfl rfl)
  obtain ⟨w2, rfl⟩ := okWide_int Tryd.underlying5 (hval 2 5 v2 rfl rfl)
  obtain ⟨f0, t0⟩ := t0
  obtain ⟨f1, t1⟩ := t1
  obtain ⟨f2, t2⟩ := t2
  obtain ⟨x0, k0, r0⟩ := (Go.Proofs.Tryd.Folder.cv).get enc W _ _ f0 _ _ t0
  obtain ⟨x1, k1, r1⟩ := (Cv.string Tryd.underlying9 (by kernel_rfl)).get enc W _ _ f1 _ _ t1
  obtain ⟨x2, k2, r2⟩ := (Cv.int Tryd.underlying5 (by kernel_rfl)).get enc W _ _ f2 _ _ t2
  have hrep : AV.RepL (gOf W) (fun _ => none) [.agg (x0.row.map .D), .D (.S x1), .D (.I .u8 x2)] [.agg w0, .string w1, .int .u8 w2] := by
    unfold AV.RepL
    refine ⟨_, _, rfl, crep_agg r0, ?_⟩
    unfold AV.RepL
    refine ⟨_, _, rfl, crep_one r1 rfl, ?_⟩
    unfold AV.RepL
    refine ⟨_, _, rfl, crep_one r2 rfl, ?_⟩
    unfold AV.RepL; rfl
  refine (law_calls ⟨Tryd.f9, Tryd.func9, by kernel_rfl, by kernel_rfl⟩ (glOk hL) (vs := #[.agg w0, .string w1, .int .u8 w2]) (hc x0 x1 x2 k0 k1 k2) hrep).mono fun e W' ⟨he, hb⟩ => ?_
  exact ⟨_, he, law_post (tb := 4) Tryd.laidOut hW' rfl rfl (by rfl) Tryd.underlying4 (by rw [Tryd.params9]; decide +kernel) hb⟩
theorem proofs9_holds (hc : ∀ (x0 : Go.Proofs.Tryd.Folder) (x1 : Str) (x2 : Int), (Go.Proofs.Tryd.Folder.ok x0) → (x1.length ≤ 9223372036854775807) → (IntKind.min .u8 ≤ x2 ∧ x2 ≤ IntKind.max .u8) →  ACall Tryd.prog 9 [.agg (x0.row.map .D), .D (.S x1), .D (.I .u8 x2)] [] (.D (.B true)) [] []) : Rows.LeafProofsAreAcceptedSaid :=
  OpenClaim.holds_of_wide 9 Tryd.f9 rfl rfl rfl rfl rfl rfl rfl ⟨rfl, rfl, rfl, rfl, rfl⟩ rfl rfl rfl rfl rfl (by kernel_rfl) Tryd.func9 (by kernel_rfl)
    (of_decide_eq_true (by kernel_rfl)) (by unfold Func.isWrapper; first | (rw [if_pos (by decide +kernel)]; kernel_rfl) | (rw [if_neg (by decide +kernel)]; exact ⟨rfl, rfl⟩))
    (fun os started H enc _ => proofs9_lifted hc os started H enc)
theorem proofs9_said : Rows.LeafProofsAreAcceptedSaid := proofs9_holds fun x0 x1 x2 k0 k1 k2 => Go.Proofs.Tryd.c_law23_LeafProofsAreAccepted 7000 x0 x1 x2 true (Go.Proofs.Tryd.law9_all 7000 (by omega) x0 x1 x2 k0 k1 k2)
theorem proofs9_card : Rows.LeafProofsAreAcceptedCardSaid :=
  Claim7.holds_tied_plain_at .later [] [.data, .data] true (true, "81ac52f078b63a2afad7e3117cff2836913e2444110d93355cacfc2370b8fad1") true proofs9_said (fun _ h => by cases h) (by kernel_rfl) (fun _ h => by cases h) leafProofsAreAccepted_row_tie rfl ⟨rfl, rfl⟩ (by kernel_rfl) rfl
    (fun f fn hf hfn => by
      obtain rfl : f = 9 := Option.some.inj ((show Tryd.prog.funcNamed "rivermark/rivermarklaw23.LeafProofsAreAccepted" = some 9 by kernel_rfl).symm.trans hf) |>.symm
      obtain rfl : fn = Tryd.f9 := (Option.some.inj (Tryd.func9.symm.trans hfn)).symm
      exact ⟨by kernel_rfl, fun j t ht => by
        rw [Tryd.params9] at ht
        have hm : t ∈ [66, 9, 5] := by
          obtain ⟨hj, e⟩ := Array.getElem?_eq_some_iff.1 ht
          rw [← e]
          exact Array.getElem_mem_toList hj
        have ha : ∀ t ∈ [66, 9, 5], Tryd.prog.wantsStandIn t = false := by decide +kernel
        exact ha t hm⟩)
    (by kernel_rfl)
end Go.Proofs.YtjhhgpencphgoaaDoor
