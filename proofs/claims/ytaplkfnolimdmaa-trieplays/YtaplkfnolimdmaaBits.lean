/- Masks and sizes: bit operations on u32 at powers of two, as numbers. -/
import Derived.Laws.BitsLemmas
import Derived.Test.YtaplkfnolimdmaaWMore
import Derived.Test.YtaplkfnolimdmaaWLast
import Derived.Test.YtaplkfnolimdmaaWWords
namespace Go.Proofs.YtaplkfnolimdmaaW.Bits
open Go.RowKit Go.Proofs.YtaplkfnolimdmaaW.PrintWords Go.Proofs.YtaplkfnolimdmaaW.PrintLast Go.Proofs.YtaplkfnolimdmaaW.PrintMore

theorem Ev.pos {α : Type} {c : Prop} [Decidable c] {f g : Nat → Option α} {r : α} (hc : c) (h : Ev f r) : Ev (fun k => if c then f k else g k) r := Ev.congr (fun _ => if_pos hc) h
theorem Ev.neg {α : Type} {c : Prop} [Decidable c] {f g : Nat → Option α} {r : α} (hc : ¬ c) (h : Ev g r) : Ev (fun k => if c then f k else g k) r := Ev.congr (fun _ => if_neg hc) h
theorem Ev.some' {α : Type} {a r : α} (h : a = r) : Ev (fun _ => some a) r := by subst h; exact Ev.now a
theorem w64 {n : Int} (h0 : -9223372036854775808 ≤ n) (h1 : n < 9223372036854775808) : wrap64 n = n := by unfold wrap64; omega
theorem u64w {n : Int} (h0 : 0 ≤ n) (h1 : n < 18446744073709551616) : IntKind.u64.wrap n = n := by rw [IntKind.wrap_u64]; omega
theorem u32w {n : Int} (h0 : 0 ≤ n) (h1 : n < 4294967296) : IntKind.u32.wrap n = n := by rw [IntKind.wrap_u32]; omega

/-- How many addresses a prefix of so many bits has. -/
def sz (b : Int) : Int := 2 ^ (32 - b).toNat
theorem sz_pos (b : Int) : 0 < sz b := Int.pow_pos (by decide)
theorem sz_dvd {b c : Int} (h : b ≤ c) (hc : c ≤ 32) : sz c ∣ sz b := by
  refine ⟨2 ^ (c - b).toNat, ?_⟩
  unfold sz
  rw [← Int.pow_add]
  congr 1
  omega
theorem sz_half {b : Int} (h : b < 32) : sz b = 2 * sz (b + 1) := by
  unfold sz
  have : (32 - b).toNat = (32 - (b + 1)).toNat + 1 := by omega
  rw [this, Int.pow_succ, Int.mul_comm]
theorem sz_le {b c : Int} (h : b ≤ c) (hc : c ≤ 32) : sz c ≤ sz b := Int.le_of_dvd (sz_pos b) (sz_dvd h hc)
theorem sz32 : sz 32 = 1 := rfl
theorem sz0 : sz 0 = 4294967296 := rfl
theorem sz_bound {b : Int} (h0 : 0 ≤ b) (h1 : b ≤ 32) : 1 ≤ sz b ∧ sz b ≤ 4294967296 := by
  have := sz_pos b
  have := sz_le (b := 0) h0 h1
  have := sz0
  omega

theorem wraps_u32 (n : Int) (h0 : 0 ≤ n) (h1 : n < 2 ^ 32) : IntKind.u32.wrap n = n := by rw [IntKind.wrap_u32]; omega
theorem and_mask {x b : Int} (h0 : 0 ≤ x) (h1 : x < 4294967296) (hb0 : 0 ≤ b) (hb : b ≤ 32) : Go.bits .and .u32 x (sz b - 1) = x % sz b := by
  unfold sz
  exact bits_mask .u32 32 (by decide) wraps_u32 (32 - b).toNat (by omega) x h0 (by omega)
theorem andNot_nat (a b : Nat) (ha : a < 2 ^ 32) (hb : b < 2 ^ 32) : Go.bits .andNot .u32 a b = ((a - (a &&& b) : Nat) : Int) := by
  have ha' : a % 2 ^ 32 = a := Nat.mod_eq_of_lt ha
  have hb' : b % 2 ^ 32 = b := Nat.mod_eq_of_lt hb
  have key : (BitVec.ofNat 32 a &&& ~~~ BitVec.ofNat 32 b).toNat = a - (a &&& b) := by
    have h1 : (BitVec.ofNat 32 a &&& ~~~ BitVec.ofNat 32 b) = BitVec.ofNat 32 a - (BitVec.ofNat 32 a &&& BitVec.ofNat 32 b) := by
      have h2 : BitVec.ofNat 32 a = (BitVec.ofNat 32 a &&& ~~~ BitVec.ofNat 32 b) + (BitVec.ofNat 32 a &&& BitVec.ofNat 32 b) := by
        rw [BitVec.add_eq_or_of_and_eq_zero]
        · ext i hi
          simp only [BitVec.getElem_and, BitVec.getElem_not, BitVec.getElem_or]
          generalize (BitVec.ofNat 32 a)[i] = p
          generalize (BitVec.ofNat 32 b)[i] = q
          cases p <;> cases q <;> rfl
        · ext i hi
          simp only [BitVec.getElem_and, BitVec.getElem_not, BitVec.getElem_zero]
          generalize (BitVec.ofNat 32 a)[i] = p
          generalize (BitVec.ofNat 32 b)[i] = q
          cases p <;> cases q <;> rfl
      rw [BitVec.eq_sub_iff_add_eq]
      exact h2.symm
    rw [h1, BitVec.toNat_sub_of_le]
    · simp [ha', hb']
    · rw [BitVec.le_def, BitVec.toNat_and]
      exact Nat.and_le_left
  show IntKind.u32.wrap ((BitVec.ofInt 32 (a : Int) &&& ~~~ BitVec.ofInt 32 (b : Int)).toNat : Int) = _
  rw [BitVec.ofInt_natCast, BitVec.ofInt_natCast, key]
  refine wraps_u32 _ (Int.natCast_nonneg _) ?_
  omega
theorem andNot_mask {x b : Int} (h0 : 0 ≤ x) (h1 : x < 4294967296) (hb0 : 0 ≤ b) (hb : b ≤ 32) : Go.bits .andNot .u32 x (sz b - 1) = x - x % sz b := by
  obtain ⟨a, rfl⟩ := Int.eq_ofNat_of_zero_le h0
  have hp := Nat.two_pow_pos (32 - b).toNat
  have hle : 2 ^ (32 - b).toNat ≤ 2 ^ 32 := Nat.pow_le_pow_right (by decide) (by omega)
  have hc : sz b - 1 = ((2 ^ (32 - b).toNat - 1 : Nat) : Int) := by
    unfold sz
    rw [Int.natCast_sub hp]; simp
  have hs : sz b = ((2 ^ (32 - b).toNat : Nat) : Int) := by unfold sz; simp
  rw [hc, andNot_nat a _ (by omega) (by omega), Nat.and_two_pow_sub_one_eq_mod, hs, Int.natCast_sub (Nat.mod_le _ _)]
  simp

theorem shl_one {m : Int} (h0 : 0 ≤ m) (h1 : m ≤ 32) : shl .u64 1 m = 2 ^ m.toNat := by
  unfold shl
  have hm : min m.toNat IntKind.u64.bits = m.toNat := by
    show min m.toNat 64 = m.toNat
    omega
  rw [hm, Int.one_mul]
  have : (2 : Int) ^ m.toNat ≤ 2 ^ 32 := by
    have := Nat.pow_le_pow_right (n := 2) (by decide) (show m.toNat ≤ 32 by omega)
    exact_mod_cast this
  have hp : (0 : Int) < 2 ^ m.toNat := Int.pow_pos (by decide)
  exact u64w (by omega) (by omega)
/-- The mask of what is behind so many bits. -/
theorem behind_val {b : Int} (h0 : 0 ≤ b) (h1 : b ≤ 32) : wrap64 (32 - b) = 32 - b ∧ (IntKind.u64.wrap ((shl .u64 1 (32 - b)) - 1)) % 4294967296 = sz b - 1 := by
  have hs := sz_bound h0 h1
  refine ⟨w64 (by omega) (by omega), ?_⟩
  rw [shl_one (by omega) (by omega), show (2 : Int) ^ (32 - b).toNat = sz b from rfl, u64w (by omega) (by omega)]
  omega
end Go.Proofs.YtaplkfnolimdmaaW.Bits
