/-
  CRC-32C as plain numbers: one step of the register, what a byte does, linearity, parity, injectivity, order of x.
-/
namespace Crcm

/-- The polynomial, mirrored. -/
def P : Nat := 0x82f63b78
/-- One bit's step (the bit has gone in already). -/
def stp (r : Nat) : Nat := (r / 2) ^^^ (if r % 2 = 1 then P else 0)

theorem P_lt : P < 2 ^ 32 := by decide

theorem xor_zero_eq {a b : Nat} (h : a ^^^ b = 0) : a = b := by
  have : a ^^^ (a ^^^ b) = a ^^^ 0 := by rw [h]
  rw [← Nat.xor_assoc, Nat.xor_self, Nat.zero_xor, Nat.xor_zero] at this
  exact this.symm

theorem stp_lt {r : Nat} (h : r < 2 ^ 32) : stp r < 2 ^ 32 := by
  unfold stp
  refine Nat.xor_lt_two_pow (by omega) ?_
  split
  · exact P_lt
  · decide

theorem xor_mod_two (a b : Nat) : (a ^^^ b) % 2 = (a % 2 + b % 2) % 2 := by
  have ha : a % 2 = (a.testBit 0).toNat := by rw [Nat.testBit_zero]; rcases Nat.mod_two_eq_zero_or_one a with h | h <;> simp [h]
  have hb : b % 2 = (b.testBit 0).toNat := by rw [Nat.testBit_zero]; rcases Nat.mod_two_eq_zero_or_one b with h | h <;> simp [h]
  have hc : (a ^^^ b) % 2 = ((a ^^^ b).testBit 0).toNat := by rw [Nat.testBit_zero]; rcases Nat.mod_two_eq_zero_or_one (a ^^^ b) with h | h <;> simp [h]
  rw [hc, Nat.testBit_xor, ha, hb]
  cases a.testBit 0 <;> cases b.testBit 0 <;> rfl

theorem xor_div_two (a b : Nat) : (a ^^^ b) / 2 = (a / 2) ^^^ (b / 2) := by
  apply Nat.eq_of_testBit_eq
  intro i
  simp [Nat.testBit_div_two, Nat.testBit_xor]

theorem stp_xor (a b : Nat) : stp (a ^^^ b) = stp a ^^^ stp b := by
  unfold stp
  rw [xor_div_two, xor_mod_two]
  rcases Nat.mod_two_eq_zero_or_one a with ha | ha <;> rcases Nat.mod_two_eq_zero_or_one b with hb | hb <;> simp [ha, hb]
  · rw [Nat.xor_assoc]
  · rw [Nat.xor_assoc, Nat.xor_assoc, Nat.xor_comm P]
  · have : ∀ x y z : Nat, (x ^^^ z) ^^^ (y ^^^ z) = x ^^^ y := by
      intro x y z
      rw [Nat.xor_assoc, Nat.xor_comm y z, ← Nat.xor_assoc z z y, Nat.xor_self, Nat.zero_xor]
    rw [this]

theorem stp_zero : stp 0 = 0 := by decide
theorem stp_two (x : Nat) : stp (2 * x) = x := by
  unfold stp
  have h1 : 2 * x / 2 = x := by omega
  have h2 : 2 * x % 2 = 0 := by omega
  rw [h1, h2]; simp

/-- n steps. -/
def stps : Nat → Nat → Nat
  | 0, r => r
  | n + 1, r => stps n (stp r)

theorem stps_lt (n : Nat) : ∀ {r : Nat}, r < 2 ^ 32 → stps n r < 2 ^ 32 := by
  induction n with
  | zero => intro r h; exact h
  | succ n ih => intro r h; exact ih (stp_lt h)

theorem stps_xor (n : Nat) : ∀ a b, stps n (a ^^^ b) = stps n a ^^^ stps n b := by
  induction n with
  | zero => intro a b; rfl
  | succ n ih => intro a b; simp only [stps]; rw [stp_xor, ih]

theorem stps_zero (n : Nat) : stps n 0 = 0 := by
  induction n with
  | zero => rfl
  | succ n ih => simp only [stps, stp_zero, ih]

theorem stps_add (m n : Nat) : ∀ r, stps (m + n) r = stps n (stps m r) := by
  induction m with
  | zero => intro r; simp [stps]
  | succ m ih => intro r; rw [Nat.add_right_comm]; simp only [stps]; exact ih _

/-- A step can be told back. -/
theorem stp_inj0 {r : Nat} (h : r < 2 ^ 32) (h0 : stp r = 0) : r = 0 := by
  unfold stp at h0
  rcases Nat.mod_two_eq_zero_or_one r with hr | hr
  · rw [hr] at h0; simp at h0; omega
  · rw [hr] at h0
    simp at h0
    have h2 : r / 2 = P := xor_zero_eq h0
    have : r / 2 < 2 ^ 31 := by omega
    rw [h2] at this
    exact absurd this (by decide)

theorem stps_inj0 (n : Nat) : ∀ {r : Nat}, r < 2 ^ 32 → stps n r = 0 → r = 0 := by
  induction n with
  | zero => intro r _ h; exact h
  | succ n ih => intro r hr h; exact stp_inj0 hr (ih (stp_lt hr) h)

/-- 2^n times x is shifted out. -/
theorem stps_shift (n : Nat) : ∀ x, stps n (2 ^ n * x) = x := by
  induction n with
  | zero => intro x; simp [stps]
  | succ n ih =>
    intro x
    have : 2 ^ (n + 1) * x = 2 * (2 ^ n * x) := by rw [Nat.pow_succ]; simp [Nat.mul_comm, Nat.mul_left_comm]
    rw [this]; simp only [stps]; rw [stp_two, ih]

/-- The table of four bits. -/
def tab : List Nat := [0x00000000, 0x105ec76f, 0x20bd8ede, 0x30e349b1, 0x417b1dbc, 0x5125dad3, 0x61c69362, 0x7198540d,
  0x82f63b78, 0x92a8fc17, 0xa24bb5a6, 0xb21572c9, 0xc38d26c4, 0xd3d3e1ab, 0xe330a81a, 0xf36e6f75]
def tb (i : Nat) : Nat := tab.getD i 0
theorem tb_stps : ∀ i, i < 16 → stps 4 i = tb i := by decide
theorem tb_lt : ∀ i, i < 16 → tb i < 2 ^ 32 := by decide

theorem split_xor (n r : Nat) : r = (2 ^ n * (r / 2 ^ n)) ^^^ (r % 2 ^ n) := by
  apply Nat.eq_of_testBit_eq
  intro i
  rw [Nat.testBit_xor, Nat.testBit_mod_two_pow, Nat.testBit_two_pow_mul, Nat.testBit_div_two_pow]
  by_cases h : i < n
  · simp [h, Nat.not_le.2 h]
  · have h' : n ≤ i := Nat.not_lt.1 h
    simp [h, h']

theorem stps4 (r : Nat) : stps 4 r = (r / 16) ^^^ tb (r % 16) := by
  have h := split_xor 4 r
  have e : (2 : Nat) ^ 4 = 16 := rfl
  rw [e] at h
  conv => lhs; rw [h]
  rw [stps_xor]
  have := stps_shift 4 (r / 16)
  rw [e] at this
  rw [this, tb_stps _ (Nat.mod_lt _ (by decide))]

/-- What the code does with half a byte. -/
def half (r c : Nat) : Nat := (r / 16) ^^^ tb ((r ^^^ c) % 16)

theorem xor_mod_pow (n a b : Nat) : (a ^^^ b) % 2 ^ n = (a % 2 ^ n) ^^^ (b % 2 ^ n) := by
  apply Nat.eq_of_testBit_eq
  intro i
  simp only [Nat.testBit_xor, Nat.testBit_mod_two_pow]
  by_cases h : i < n <;> simp [h]

theorem xor_div_pow (n a b : Nat) : (a ^^^ b) / 2 ^ n = (a / 2 ^ n) ^^^ (b / 2 ^ n) := by
  apply Nat.eq_of_testBit_eq
  intro i
  simp [Nat.testBit_xor, Nat.testBit_div_two_pow]

theorem half_eq (r c : Nat) : half r c = stps 4 (r ^^^ (c % 16)) := by
  rw [stps4]
  unfold half
  have h1 := xor_div_pow 4 r (c % 16)
  have h2 := xor_mod_pow 4 r c
  have h3 := xor_mod_pow 4 r (c % 16)
  have e : (2 : Nat) ^ 4 = 16 := rfl
  rw [e] at h1 h2 h3
  rw [h1, h2, h3]
  have z : c % 16 / 16 = 0 := by omega
  have m : c % 16 % 16 = c % 16 := by omega
  rw [z, m, Nat.xor_zero]

/-- What a byte does to the register. -/
def upd (r c : Nat) : Nat := stps 8 (r ^^^ c)

theorem upd_half (r c : Nat) (hc : c < 256) : half (half r c) (c / 16) = upd r c := by
  rw [half_eq r c, half_eq]
  have hs := split_xor 4 c
  have e : (2 : Nat) ^ 4 = 16 := rfl
  rw [e] at hs
  have hm : c / 16 % 16 = c / 16 := by omega
  rw [hm]
  unfold upd
  rw [show (8 : Nat) = 4 + 4 from rfl, stps_add]
  congr 1
  conv => rhs; rw [hs]
  rw [Nat.xor_comm (16 * (c / 16)), ← Nat.xor_assoc, stps_xor 4 (r ^^^ c % 16)]
  have := stps_shift 4 (c / 16)
  rw [e] at this
  rw [this]

theorem upd_lt {r c : Nat} (hr : r < 2 ^ 32) (hc : c < 256) : upd r c < 2 ^ 32 :=
  stps_lt 8 (Nat.xor_lt_two_pow hr (by omega))

def ones : Nat := 4294967295
theorem ones_lt : ones < 2 ^ 32 := by decide

/-- The register behind bytes. -/
def reg (r : Nat) (l : List UInt8) : Nat := l.foldl (fun r c => upd r c.toNat) r
def more (s : Nat) (l : List UInt8) : Nat := reg (s ^^^ ones) l ^^^ ones
def sum (l : List UInt8) : Nat := more 0 l

theorem reg_nil (r : Nat) : reg r [] = r := rfl
theorem reg_cons (r : Nat) (c : UInt8) (l : List UInt8) : reg r (c :: l) = reg (upd r c.toNat) l := rfl
theorem reg_append (r : Nat) (l m : List UInt8) : reg r (l ++ m) = reg (reg r l) m := by simp [reg]
theorem reg_snoc (r : Nat) (l : List UInt8) (c : UInt8) : reg r (l ++ [c]) = upd (reg r l) c.toNat := by simp [reg]

theorem reg_lt (l : List UInt8) : ∀ {r : Nat}, r < 2 ^ 32 → reg r l < 2 ^ 32 := by
  induction l with
  | nil => intro r h; exact h
  | cons c l ih => intro r h; exact ih (upd_lt h c.toNat_lt)

theorem more_lt {s : Nat} (hs : s < 2 ^ 32) (l : List UInt8) : more s l < 2 ^ 32 :=
  Nat.xor_lt_two_pow (reg_lt l (Nat.xor_lt_two_pow hs ones_lt)) ones_lt

theorem more_append (s : Nat) (l m : List UInt8) : more (more s l) m = more s (l ++ m) := by
  unfold more
  rw [reg_append, Nat.xor_assoc, Nat.xor_self, Nat.xor_zero]
theorem more_nil (s : Nat) : more s [] = s := by
  unfold more; rw [reg_nil, Nat.xor_assoc, Nat.xor_self, Nat.xor_zero]

/-- The register is linear: of two rows of bytes, held against each other. -/
def xorL : List UInt8 → List UInt8 → List UInt8
  | [], _ => []
  | a, [] => a
  | x :: a, y :: b => (x ^^^ y) :: xorL a b

theorem reg_xor : ∀ (l m : List UInt8) (a b : Nat), l.length = m.length → reg (a ^^^ b) (xorL l m) = reg a l ^^^ reg b m := by
  intro l
  induction l with
  | nil => intro m a b h; cases m with
    | nil => rfl
    | cons _ _ => simp at h
  | cons x l ih =>
    intro m a b h
    cases m with
    | nil => simp at h
    | cons y m =>
      simp only [xorL, reg_cons]
      rw [← ih m (upd a x.toNat) (upd b y.toNat) (by simpa using h)]
      congr 1
      unfold upd
      rw [← stps_xor, UInt8.toNat_xor]
      congr 1
      rw [Nat.xor_assoc, Nat.xor_assoc]
      congr 1
      rw [← Nat.xor_assoc, ← Nat.xor_assoc, Nat.xor_comm b]

/-- The four bytes of a sum. -/
def le4 (n : Nat) : List UInt8 := [UInt8.ofNat (n % 256), UInt8.ofNat (n / 256 % 256), UInt8.ofNat (n / 65536 % 256), UInt8.ofNat (n / 16777216 % 256)]
def num4 (l : List UInt8) : Nat := (l.getD 0 0).toNat + 256 * (l.getD 1 0).toNat + 65536 * (l.getD 2 0).toNat + 16777216 * (l.getD 3 0).toNat

theorem num4_le4 {n : Nat} (h : n < 2 ^ 32) : num4 (le4 n) = n := by
  simp [num4, le4]
  omega

/-! ### parity -/
def par : Nat → Nat → Bool
  | 0, _ => false
  | k + 1, n => (n % 2 == 1) != par k (n / 2)
theorem par_zero : ∀ k, par k 0 = false
  | 0 => rfl
  | k + 1 => by simp [par, par_zero k]
theorem par_xor : ∀ (k a b : Nat), par k (a ^^^ b) = (par k a != par k b)
  | 0, _, _ => rfl
  | k + 1, a, b => by
    simp only [par]
    rw [xor_div_two, par_xor k, xor_mod_two]
    rcases Nat.mod_two_eq_zero_or_one a with ha | ha <;> rcases Nat.mod_two_eq_zero_or_one b with hb | hb <;> rw [ha, hb] <;> cases par k (a / 2) <;> cases par k (b / 2) <;> rfl
theorem par_small : ∀ (k n : Nat), n < 2 ^ k → par (k + 1) n = par k n
  | 0, n, h => by
    have : n = 0 := by omega
    subst this; rfl
  | k + 1, n, h => by
    have := par_small k (n / 2) (by rw [Nat.pow_succ] at h; omega)
    simp only [par] at this ⊢
    rw [this]
theorem par_stp {r : Nat} (h : r < 2 ^ 32) : par 32 (stp r) = par 32 r := by
  have e : r = (2 * (r / 2)) ^^^ (r % 2) := by
    have := split_xor 1 r
    simpa using this
  conv => lhs; rw [e]
  rw [stp_xor, stp_two, par_xor]
  have h2 : par 32 (r / 2) = par 31 (r / 2) := par_small 31 (r / 2) (by omega)
  have h3 : par 32 r = ((r % 2 == 1) != par 31 (r / 2)) := rfl
  rw [h2, h3]
  have hp1 : par 32 (stp 1) = true := by decide
  have hp0 : par 32 (stp 0) = false := by decide
  rcases Nat.mod_two_eq_zero_or_one r with hr | hr
  · rw [hr, hp0]; cases par 31 (r / 2) <;> rfl
  · rw [hr, hp1]; cases par 31 (r / 2) <;> rfl
theorem par_stps (n : Nat) : ∀ {r : Nat}, r < 2 ^ 32 → par 32 (stps n r) = par 32 r := by
  induction n with
  | zero => intro r _; rfl
  | succ n ih => intro r h; simp only [stps]; rw [ih (stp_lt h), par_stp h]

/-! ### one byte that is turned -/
theorem reg_xor_first : ∀ (l : List UInt8) (a e : Nat), reg (a ^^^ e) l = reg a l ^^^ stps (8 * l.length) e
  | [], a, e => by simp [reg, stps]
  | c :: l, a, e => by
    rw [reg_cons, reg_cons]
    have : upd (a ^^^ e) c.toNat = upd a c.toNat ^^^ stps 8 e := by
      unfold upd
      rw [← stps_xor]
      congr 1
      rw [Nat.xor_assoc, Nat.xor_comm e, ← Nat.xor_assoc]
    rw [this, reg_xor_first l]
    rfl

theorem upd_xor (r c d : Nat) : upd r (c ^^^ d) = upd r c ^^^ stps 8 d := by
  unfold upd
  rw [← Nat.xor_assoc, stps_xor]

/-- A byte that is turned by d, behind some and ahead of others. -/
theorem reg_turn (r : Nat) (pre post : List UInt8) (c d : UInt8) :
    reg r (pre ++ (c ^^^ d) :: post) = reg r (pre ++ c :: post) ^^^ stps (8 * post.length + 8) d.toNat := by
  rw [reg_append, reg_append, reg_cons, reg_cons, UInt8.toNat_xor, upd_xor, reg_xor_first]
  rfl

theorem stps_pow (m : Nat) : stps m (2 ^ m) = 1 := by
  have := stps_shift m 1
  simpa using this

/-- A bit that is turned: m of the byte k of n. -/
theorem delta (n m : Nat) (hm : m < 8) (hn : 8 ≤ n) : stps n (2 ^ m) = stps (n - m) 1 := by
  have : n = m + (n - m) := by omega
  conv => lhs; rw [this]
  rw [stps_add, stps_pow]

/-! ### what opens -/
def R : Nat := stps 32 ones
/-- Bytes that open: the last four are the sum of those ahead. -/
def good (l : List UInt8) : Prop := reg ones l = R

theorem stps_inj (n : Nat) {a b : Nat} (ha : a < 2 ^ 32) (hb : b < 2 ^ 32) (h : stps n a = stps n b) : a = b := by
  have h1 : stps n (a ^^^ b) = 0 := by rw [stps_xor, h, Nat.xor_self]
  have h2 := stps_inj0 n (Nat.xor_lt_two_pow ha hb) h1
  exact xor_zero_eq h2

theorem add_xor (n a b : Nat) (h : a < 2 ^ n) : a + 2 ^ n * b = a ^^^ (2 ^ n * b) := by
  have hs := split_xor n (a + 2 ^ n * b)
  have e1 : (a + 2 ^ n * b) / 2 ^ n = b := by
    rw [Nat.add_mul_div_left _ _ (Nat.two_pow_pos n), Nat.div_eq_of_lt h]; omega
  have e2 : (a + 2 ^ n * b) % 2 ^ n = a := by
    rw [Nat.add_mul_mod_self_left, Nat.mod_eq_of_lt h]
  rw [e1, e2] at hs
  rw [hs, Nat.xor_comm]

theorem upd_num (r c x : Nat) (hc : c < 256) : stps 8 (r ^^^ (c + 256 * x)) = upd r c ^^^ x := by
  have h := add_xor 8 c x hc
  have e : (2 : Nat) ^ 8 = 256 := rfl
  rw [e] at h
  have s := stps_shift 8 x
  rw [e] at s
  rw [h, ← Nat.xor_assoc, stps_xor, s]; rfl

theorem reg_four (r : Nat) (a b c d : UInt8) : reg r [a, b, c, d] = stps 32 (r ^^^ num4 [a, b, c, d]) := by
  have e : num4 [a, b, c, d] = a.toNat + 256 * (b.toNat + 256 * (c.toNat + 256 * (d.toNat + 256 * 0))) := by
    simp [num4]; omega
  rw [e, show (32 : Nat) = 8 + (8 + (8 + 8)) from rfl]
  simp only [stps_add]
  rw [upd_num _ _ _ a.toNat_lt, upd_num _ _ _ b.toNat_lt, upd_num _ _ _ c.toNat_lt, upd_num _ _ _ d.toNat_lt, Nat.xor_zero]
  rfl

theorem num4_lt (a b c d : UInt8) : num4 [a, b, c, d] < 2 ^ 32 := by
  have ha := a.toNat_lt
  have hb := b.toNat_lt
  have hc := c.toNat_lt
  have hd := d.toNat_lt
  simp [num4]
  omega

theorem good_iff (l : List UInt8) (a b c d : UInt8) : good (l ++ [a, b, c, d]) ↔ sum l = num4 [a, b, c, d] := by
  unfold good sum more R
  rw [reg_append, reg_four, Nat.zero_xor]
  have hl := reg_lt l ones_lt
  have hn := num4_lt a b c d
  constructor
  · intro h
    have := stps_inj 32 (Nat.xor_lt_two_pow hl hn) ones_lt h
    have e : reg ones l ^^^ ones = reg ones l ^^^ (reg ones l ^^^ num4 [a, b, c, d]) := by rw [this]
    rw [e, ← Nat.xor_assoc, Nat.xor_self, Nat.zero_xor]
  · intro h
    rw [← h, ← Nat.xor_assoc, Nat.xor_self, Nat.zero_xor]

theorem good_seal (l : List UInt8) : good (l ++ le4 (sum l)) := by
  have h : sum l < 2 ^ 32 := more_lt (by decide) l
  have := num4_le4 h
  unfold le4 at this ⊢
  rw [good_iff, this]

/-- Turned bits: the register is another one by the sum of the turned bits' own. -/
theorem good_turn {pre post : List UInt8} {c d : UInt8} (e : Nat) (h : reg ones (pre ++ c :: post) = R ^^^ e) :
    reg ones (pre ++ (c ^^^ d) :: post) = R ^^^ (e ^^^ stps (8 * post.length + 8) d.toNat) := by
  rw [reg_turn, h, Nat.xor_assoc]

theorem good_of_xor {l : List UInt8} {e : Nat} (h : reg ones l = R ^^^ e) : good l ↔ e = 0 := by
  unfold good
  rw [h]
  constructor
  · intro h
    have : R ^^^ (R ^^^ e) = R ^^^ R := by rw [h]
    rw [← Nat.xor_assoc, Nat.xor_self, Nat.zero_xor] at this
    exact this
  · intro h; rw [h, Nat.xor_zero]

/-! ### two bits: the order of x -/
def never : Nat → Nat → Bool
  | 0, _ => true
  | k + 1, r => (stp r != 1) && never k (stp r)
theorem never_4832 : never 4832 1 = true := by decide +kernel
theorem never_step : ∀ (k r : Nat), never k r = true → ∀ n, n < k → stps (n + 1) r ≠ 1
  | 0, _, _, n, hn => by omega
  | k + 1, r, h, n, hn => by
    simp only [never, Bool.and_eq_true, bne_iff_ne] at h
    cases n with
    | zero => exact h.1
    | succ n => exact never_step k (stp r) h.2 n (by omega)
theorem two_bits {a b : Nat} (h : a < b) (hb : b ≤ 4832) : stps a 1 ^^^ stps b 1 ≠ 0 := by
  intro h0
  have h1 := xor_zero_eq h0
  have h2 : stps b 1 = stps a (stps (b - a) 1) := by rw [← stps_add]; congr 1; omega
  rw [h2] at h1
  have h3 := stps_inj a (by decide) (stps_lt _ (by decide)) h1
  have h4 := never_step 4832 1 never_4832 (b - a - 1) (by omega)
  rw [show b - a - 1 + 1 = b - a by omega] at h4
  exact h4 h3.symm

theorem odd_one (n : Nat) : par 32 (stps n 1) = true := by rw [par_stps n (by decide)]; decide

/-! ### four bytes -/
theorem four_inj {r : Nat} (hr : r < 2 ^ 32) {a b c d a' b' c' d' : UInt8} (h : reg r [a, b, c, d] = reg r [a', b', c', d']) : num4 [a, b, c, d] = num4 [a', b', c', d'] := by
  rw [reg_four, reg_four] at h
  have h1 := stps_inj 32 (Nat.xor_lt_two_pow hr (num4_lt _ _ _ _)) (Nat.xor_lt_two_pow hr (num4_lt _ _ _ _)) h
  have h2 : r ^^^ (r ^^^ num4 [a, b, c, d]) = r ^^^ (r ^^^ num4 [a', b', c', d']) := by rw [h1]
  rwa [← Nat.xor_assoc, ← Nat.xor_assoc, Nat.xor_self, Nat.zero_xor, Nat.zero_xor] at h2
theorem reg_inj (l : List UInt8) {a b : Nat} (ha : a < 2 ^ 32) (hb : b < 2 ^ 32) (h : reg a l = reg b l) : a = b := by
  have e : b = a ^^^ (a ^^^ b) := by rw [← Nat.xor_assoc, Nat.xor_self, Nat.zero_xor]
  rw [e, reg_xor_first] at h
  have h1 : stps (8 * l.length) (a ^^^ b) = 0 := by
    have h2 : reg a l ^^^ reg a l = reg a l ^^^ (reg a l ^^^ stps (8 * l.length) (a ^^^ b)) := by rw [← h]
    rw [← Nat.xor_assoc, Nat.xor_self, Nat.zero_xor] at h2
    exact h2.symm
  have h3 := stps_inj0 _ (Nat.xor_lt_two_pow ha hb) h1
  exact xor_zero_eq h3
end Crcm
