/- A part of the proof that a law answers true for every input: an executor of the model over an abstract heap, proved sound, or the use of it. -/
import Derived.Test.YthpfaaocjmedhaaGreatDoorXOps5
import Derived.Laws.Strings
namespace Go.X
open Go
section
variable {P : Program} {E : Env}

theorem ltI_eq (a b : Int) : ltI a b = decide (a < b) := by
  cases a with
  | ofNat m =>
    cases b with
    | ofNat n =>
      rw [Bool.eq_iff_iff, decide_eq_true_eq]
      show Nat.blt m n = true ↔ (m : Int) < (n : Int)
      rw [Nat.blt_eq]; omega
    | negSucc n =>
      rw [Bool.eq_iff_iff, decide_eq_true_eq]
      show false = true ↔ (m : Int) < Int.negSucc n
      simp; omega
  | negSucc m =>
    cases b with
    | ofNat n =>
      rw [Bool.eq_iff_iff, decide_eq_true_eq]
      show true = true ↔ Int.negSucc m < (n : Int)
      simp; omega
    | negSucc n =>
      rw [Bool.eq_iff_iff, decide_eq_true_eq]
      show Nat.blt n m = true ↔ Int.negSucc m < Int.negSucc n
      rw [Nat.blt_eq]; omega

theorem eqI_eq (a b : Int) : eqI a b = (a == b) := by
  rw [Bool.eq_iff_iff]
  cases a <;> cases b <;> simp [eqI, Nat.beq_eq]
  rename_i m n; omega

theorem kindEq_iff {k j : IntKind} : kindEq k j = true ↔ k = j := by cases k <;> cases j <;> simp [kindEq]

theorem wrap_id {k : IntKind} {n : Int} (h1 : k.min ≤ n) (h2 : n ≤ k.max) : k.wrap n = n := by
  cases k <;> simp [IntKind.wrap, IntKind.min, IntKind.max, IntKind.bits, IntKind.signed] at * <;> omega

theorem wrapX_eq (k : IntKind) (n : Int) : wrapX k n = k.wrap n := by
  cases n with
  | ofNat m =>
    simp only [wrapX]
    split
    · rename_i h
      have := Nat.le_of_ble_eq_true h
      refine (wrap_id ?_ ?_).symm <;> cases k <;> simp [IntKind.min, IntKind.max, IntKind.bits, IntKind.signed, topOf] at * <;> omega
    · rfl
  | negSucc m =>
    simp only [wrapX]
    split
    · rename_i h
      have : m < lowOf k := by simpa [Nat.blt_eq] using h
      refine (wrap_id ?_ ?_).symm <;> cases k <;> simp [IntKind.min, IntKind.max, IntKind.bits, IntKind.signed, lowOf] at * <;> omega
    · rfl

theorem bits_nat (k : IntKind) (m : Nat) (h : m ≤ topOf k) : (BitVec.ofInt k.bits (Int.ofNat m)).toNat = m := by
  have hb : m < 2 ^ k.bits := by cases k <;> simp [topOf, IntKind.bits] at * <;> omega
  simp only [BitVec.toNat_ofInt]
  have : (Int.ofNat m) % ((2 ^ k.bits : Nat) : Int) = (m : Int) := by
    show (m : Int) % ((2 ^ k.bits : Nat) : Int) = m
    exact Int.emod_eq_of_lt (by omega) (by omega)
  rw [this]
  simp

theorem eqL_iff : ∀ {a b : List Nat}, eqL a b = true ↔ a = b
  | [], [] => by simp [eqL]
  | [], _ :: _ => by simp [eqL]
  | _ :: _, [] => by simp [eqL]
  | x :: a, y :: b => by
    simp only [eqL]
    cases h : Nat.beq x y with
    | true => have := Nat.eq_of_beq_eq_true h; simp [this, eqL_iff (a := a)]
    | false => have := Nat.ne_of_beq_eq_false h; simp [this]

theorem map_toNat_inj : ∀ {a b : List UInt8}, a.map (·.toNat) = b.map (·.toNat) ↔ a = b
  | [], [] => by simp
  | [], _ :: _ => by simp
  | _ :: _, [] => by simp
  | x :: a, y :: b => by simp [map_toNat_inj (a := a), UInt8.toNat_inj]

theorem bytesOf_inj {s t : ByteArray} : bytesOf s = bytesOf t ↔ s = t := by
  unfold bytesOf
  rw [map_toNat_inj]
  constructor
  · intro h
    cases s; cases t
    simp only at h
    congr 1
    exact Array.toList_inj.1 h
  · rintro rfl; rfl

theorem byteLt_eq : ∀ (a b : List UInt8), byteLt (a.map (·.toNat)) (b.map (·.toNat)) = Op.bytesLess a b
  | [], [] => rfl
  | [], _ :: _ => rfl
  | _ :: _, [] => rfl
  | x :: a, y :: b => by
    simp only [List.map_cons, byteLt, Op.bytesLess, byteLt_eq a b]
    have h1 : (x < y) = (x.toNat < y.toNat) := by rw [UInt8.lt_iff_toNat_lt]
    by_cases hlt : x.toNat < y.toNat
    · have : Nat.blt x.toNat y.toNat = true := by simpa [Nat.blt_eq] using hlt
      simp [this, h1, hlt]
    · have : Nat.blt x.toNat y.toNat = false := by
        cases hq : Nat.blt x.toNat y.toNat with
        | false => rfl
        | true => rw [Nat.blt_eq] at hq; exact absurd hq hlt
      rw [this]
      by_cases he : x = y
      · subst he; simp
      · have h2 : x.toNat ≠ y.toNat := fun e => he (UInt8.toNat_inj.1 e)
        have : Nat.beq x.toNat y.toNat = false := by
          cases hq : Nat.beq x.toNat y.toNat with
          | false => rfl
          | true => exact absurd (Nat.eq_of_beq_eq_true hq) h2
        simp [this, h1, hlt, he]

/-! ## Words on two values -/
def BV (P : Program) (op : BinOp) (t : Nat) (u v : Value) (ρ : Rho) (x : V) : Prop := ∀ w, ∃ r, (binOp op t u v).run P w = .ok r w ∧ VRel ρ x r

theorem BV_bool {op : BinOp} {t : Nat} {u v : Value} {ρ : Rho} {b : Bool} (h : ∀ w, (binOp op t u v).run P w = .ok (.bool b) w) : BV P op t u v ρ (.bool b) :=
  fun w => ⟨_, h w, by simp only [VRel]⟩
theorem BV_int {op : BinOp} {t : Nat} {u v : Value} {ρ : Rho} {k : IntKind} {n : Int} (h : ∀ w, (binOp op t u v).run P w = .ok (.int k n) w) : BV P op t u v ρ (.int k n) :=
  fun w => ⟨_, h w, by simp only [VRel]⟩

theorem binOp_int (op : BinOp) (t : Nat) (k : IntKind) (a b : Int) (h1 : op ≠ .shl) (h2 : op ≠ .shr) : binOp op t (.int k a) (.int k b) =
    (match op with
    | .add | .sub | .mul => Op.intArith op k a b
    | .quo | .rem => Op.intDiv op k a b
    | .and | .or | .xor | .andNot => Op.intBits op k a b
    | _ => Op.intCmp op a b) := by
  cases op <;> simp [binOp] <;> first | (exact absurd rfl h1) | (exact absurd rfl h2)

theorem intOp_ok {ρ : Rho} (op : BinOp) (t : Nat) (k : IntKind) (a b : Int) {x : V} (h : intOp op k a b = some x) : BV P op t (.int k a) (.int k b) ρ x := by
  cases op <;> simp only [intOp, okB, Option.some.injEq] at h
  case add => subst h; refine BV_int fun w => ?_; rw [binOp_int _ _ _ _ _ (by simp) (by simp), wrapX_eq]; rfl
  case sub => subst h; refine BV_int fun w => ?_; rw [binOp_int _ _ _ _ _ (by simp) (by simp), wrapX_eq]; rfl
  case mul => subst h; refine BV_int fun w => ?_; rw [binOp_int _ _ _ _ _ (by simp) (by simp), wrapX_eq]; rfl
  case eql => subst h; refine BV_bool fun w => ?_; rw [binOp_int _ _ _ _ _ (by simp) (by simp), eqI_eq]; rfl
  case neq => subst h; refine BV_bool fun w => ?_; rw [binOp_int _ _ _ _ _ (by simp) (by simp), eqI_eq]; rfl
  case lss => subst h; refine BV_bool fun w => ?_; rw [binOp_int _ _ _ _ _ (by simp) (by simp), ltI_eq]; rfl
  case leq =>
    subst h; refine BV_bool fun w => ?_; rw [binOp_int _ _ _ _ _ (by simp) (by simp), ltI_eq]
    have : (!decide (b < a)) = decide (a ≤ b) := by rw [Bool.eq_iff_iff]; simp
    rw [this]; rfl
  case gtr => subst h; refine BV_bool fun w => ?_; rw [binOp_int _ _ _ _ _ (by simp) (by simp), ltI_eq]; rfl
  case geq =>
    subst h; refine BV_bool fun w => ?_; rw [binOp_int _ _ _ _ _ (by simp) (by simp), ltI_eq]
    have : (!decide (a < b)) = decide (a ≥ b) := by rw [Bool.eq_iff_iff]; simp
    rw [this]; rfl
  case quo =>
    split at h
    · rename_i m n
      simp only [Option.some.injEq] at h
      subst h
      refine BV_int fun w => ?_
      rw [binOp_int _ _ _ _ _ (by simp) (by simp), wrapX_eq]
      have h0 : Int.ofNat (n + 1) ≠ 0 := by show ((n + 1 : Nat) : Int) ≠ 0; omega
      have h1 : (Int.ofNat m).tdiv (Int.ofNat (n + 1)) = Int.ofNat (Nat.div m (n + 1)) := rfl
      simp only [Op.intDiv, if_neg h0, h1]
      rfl
    · cases h
  case rem =>
    split at h
    · rename_i m n
      simp only [Option.some.injEq] at h
      subst h
      refine BV_int fun w => ?_
      rw [binOp_int _ _ _ _ _ (by simp) (by simp)]
      have h0 : Int.ofNat (n + 1) ≠ 0 := by show ((n + 1 : Nat) : Int) ≠ 0; omega
      have h1 : (Int.ofNat m).tmod (Int.ofNat (n + 1)) = Int.ofNat (Nat.mod m (n + 1)) := rfl
      simp only [Op.intDiv, if_neg h0, h1]
      rfl
    · cases h
  all_goals
    first
      | (cases h; done)
      | skip
  all_goals
    split at h
    · rename_i m n
      split at h
      · rename_i hm hn
        have hm' := bits_nat k m (Nat.le_of_ble_eq_true hm)
        have hn' := bits_nat k n (Nat.le_of_ble_eq_true hn)
        simp only [bitsX, Option.some.injEq] at h
        subst h
        refine BV_int fun w => ?_
        rw [binOp_int _ _ _ _ _ (by simp) (by simp), wrapX_eq]
        simp only [Op.intBits, BitVec.toNat_and, BitVec.toNat_or, BitVec.toNat_xor, hm', hn']
        rfl
      · cases h
    · cases h

theorem bitsOf_eq (k : IntKind) : bitsOf k = k.bits := by cases k <;> rfl

theorem shiftOp_ok {ρ : Rho} (op : BinOp) (hop : op = .shl ∨ op = .shr) (t : Nat) (k j : IntKind) (a b : Int) {x : V} (h : shiftOp op k a b = some x) : BV P op t (.int k a) (.int j b) ρ x := by
  unfold shiftOp at h
  split at h
  · rename_i n
    have hneg : ¬ (Int.ofNat n < 0) := by simp
    rcases hop with rfl | rfl
    · simp only at h
      split at h
      · rename_i hle
        have hle' : n ≤ k.bits := by rw [← bitsOf_eq]; exact Nat.le_of_ble_eq_true hle
        simp only [Option.some.injEq] at h
        subst h
        refine BV_int fun w => ?_
        have hmin : min (Int.ofNat n).toNat k.bits = n := by simp; omega
        simp only [binOp, Op.shift, if_neg hneg, hmin, wrapX_eq]
        have : Int.mul a (Int.ofNat (Nat.pow 2 n)) = a * 2 ^ n := by
          show a * ((2 ^ n : Nat) : Int) = _
          simp
        rw [this]; rfl
      · cases h
    · simp only at h
      split at h
      · rename_i m
        split at h
        · rename_i hle
          have hle' : n ≤ k.bits := by rw [← bitsOf_eq]; exact Nat.le_of_ble_eq_true hle
          simp only [Option.some.injEq] at h
          subst h
          refine BV_int fun w => ?_
          have hmin : min (Int.ofNat n).toNat k.bits = n := by simp; omega
          simp only [binOp, Op.shift, if_neg hneg, hmin]
          have : (Int.ofNat m).fdiv (2 ^ n) = Int.ofNat (Nat.div m (Nat.pow 2 n)) := by
            have h2 : (2 : Int) ^ n = Int.ofNat (2 ^ n) := by simp
            rw [h2]
            show (m : Int).fdiv ((2 ^ n : Nat) : Int) = ((m / 2 ^ n : Nat) : Int)
            rw [Int.fdiv_eq_ediv_of_nonneg _ (Int.natCast_nonneg _)]
            simp
          rw [this]; rfl
        · cases h
      · cases h
  · cases h

theorem strOp_ok {ρ : Rho} (op : BinOp) (t : Nat) (s u : ByteArray) {x : V} (h : strOp op (bytesOf s) (bytesOf u) = some x) : BV P op t (.string s) (.string u) ρ x := by
  have he : eqL (bytesOf s) (bytesOf u) = (s.toList == u.toList) := by
    rw [Bool.eq_iff_iff, eqL_iff, bytesOf_inj, beq_iff_eq, ByteArray.toList_eq, ByteArray.toList_eq]
    constructor
    · rintro rfl; rfl
    · intro e; cases s; cases u; simp only at e; congr 1; exact Array.toList_inj.1 e
  have hl : byteLt (bytesOf s) (bytesOf u) = Op.bytesLess s.toList u.toList := by
    unfold bytesOf; rw [byteLt_eq, ByteArray.toList_eq, ByteArray.toList_eq]
  cases op <;> simp only [strOp, okB, Option.some.injEq] at h <;> first | (cases h; done) | (subst h; refine BV_bool fun w => ?_; rw [he]; rfl) | (subst h; refine BV_bool fun w => ?_; rw [hl]; rfl) | (subst h; refine BV_bool fun w => ?_; rw [hl, he]; rfl)

theorem strAdd_ok {ρ : Rho} (t : Nat) (s u : ByteArray) (hb : (bytesOf s).length + (bytesOf u).length ≤ 1099511627776) : BV P .add t (.string s) (.string u) ρ (.str (bytesOf s ++ bytesOf u)) := by
  intro w
  refine ⟨.string (s ++ u), ?_, ?_⟩
  · have h1 : ∀ x : ByteArray, (bytesOf x).length = x.size := fun x => by unfold bytesOf; simp
    rw [h1, h1] at hb
    have h2 : ¬ (IntKind.i64.max < ((s.size + u.size : Nat) : Int)) := by rw [IntKind.max_i64]; omega
    simp only [binOp, Op.stringOp, gt_iff_lt, if_neg h2]
    rfl
  · simp only [VRel]
    refine ⟨_, rfl, ?_⟩
    unfold bytesOf
    simp
end
end Go.X
