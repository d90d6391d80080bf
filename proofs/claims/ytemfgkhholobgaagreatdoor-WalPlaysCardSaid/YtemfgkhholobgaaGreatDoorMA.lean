/- Plain laws of layer 1: rows of numbers. Plain laws of layer 3: sums and cells. Plain laws of layer 4: frames. Plain laws of names by numbers. -/
import Derived.Lib.BitFns
import Derived.Lib.ItoaNum
import Derived.Lib.Itoa
import Derived.Lib.ParseIntB
import Derived.Lib.Strings
import Derived.Lib.Repeat
section
namespace Go.M
/-- The last w bytes of a number, the greatest first. -/
def beW (n : Nat) : Nat → List UInt8
  | 0 => []
  | w + 1 => UInt8.ofNat (n / 256 ^ w) :: beW n w
def big (l : List UInt8) : Nat := l.foldl (fun n c => 256 * n + c.toNat) 0
/-- How many bytes a number needs. -/
def wid (n : Nat) : Nat := if h : n = 0 then 0 else wid (n / 256) + 1
termination_by n
decreasing_by omega
def be (n : Nat) : List UInt8 := beW n (wid n)
def row (n : Nat) : List UInt8 := if n < 248 then [UInt8.ofNat n] else UInt8.ofNat (247 + wid n) :: be n
def behind (n : Nat) : Nat := if n < 248 then 0 else wid n
theorem wid_zero : wid 0 = 0 := by unfold wid; simp
theorem wid_pos {n : Nat} (h : 0 < n) : wid n = wid (n / 256) + 1 := by
  conv => lhs; unfold wid
  rw [dif_neg (by omega)]
@[simp] theorem beW_length (n : Nat) : ∀ w, (beW n w).length = w
  | 0 => rfl
  | w + 1 => by simp [beW, beW_length n w]
theorem u8_eq {a b : Nat} (h : a % 256 = b % 256) : UInt8.ofNat a = UInt8.ofNat b := by
  apply UInt8.toNat_inj.1
  simp [UInt8.toNat_ofNat', h]
theorem beW_div (n : Nat) : ∀ w, beW n (w + 1) = beW (n / 256) w ++ [UInt8.ofNat n]
  | 0 => by simp [beW]
  | w + 1 => by
    rw [beW, beW_div n w]
    simp only [beW, List.cons_append]
    congr 2
    rw [Nat.div_div_eq_div_mul, Nat.pow_succ, Nat.mul_comm]
theorem be_succ {n : Nat} (h : 0 < n) : be n = be (n / 256) ++ [UInt8.ofNat n] := by
  unfold be
  rw [wid_pos h, beW_div]
theorem be_zero : be 0 = [] := by unfold be; rw [wid_zero]; rfl
theorem lt_wid : ∀ (k n : Nat), n < 256 ^ k ↔ wid n ≤ k
  | 0, n => by
    by_cases h : n = 0
    · subst h; simp [wid_zero]
    · rw [wid_pos (by omega)]; simp; omega
  | k + 1, n => by
    by_cases h : n = 0
    · subst h; simp [wid_zero, Nat.pow_pos]
    · rw [wid_pos (by omega), Nat.add_le_add_iff_right, ← lt_wid k (n / 256), Nat.pow_succ, Nat.div_lt_iff_lt_mul (by omega)]
theorem wid_le8 {n : Nat} (h : n < 18446744073709551616) : wid n ≤ 8 := (lt_wid 8 n).1 (by simpa using h)
theorem wid_ge1 {n : Nat} (h : 0 < n) : 1 ≤ wid n := by rw [wid_pos h]; omega
theorem big_snoc (l : List UInt8) (c : UInt8) : big (l ++ [c]) = 256 * big l + c.toNat := by simp [big]
theorem big_beW (n : Nat) : ∀ w, big (beW n w) = n % 256 ^ w := by
  intro w
  induction w generalizing n with
  | zero => simp [beW, big, Nat.mod_one]
  | succ w ih =>
    rw [beW_div, big_snoc, ih, UInt8.toNat_ofNat', show (256:Nat) ^ (w + 1) = 256 ^ w * 256 from Nat.pow_succ _ _, Nat.mul_comm (256 ^ w) 256, Nat.mod_mul]
    omega
theorem big_be (n : Nat) : big (be n) = n := by
  unfold be
  rw [big_beW, Nat.mod_eq_of_lt ((lt_wid _ _).2 (Nat.le_refl _))]
theorem snoc_ind {α : Type} {p : List α → Prop} (h0 : p []) (h1 : ∀ l x, p l → p (l ++ [x])) (l : List α) : p l := by
  have : ∀ n (l : List α), l.length = n → p l := by
    intro n
    induction n with
    | zero => intro l hl; rw [List.length_eq_zero_iff] at hl; subst hl; exact h0
    | succ n ih =>
      intro l hl
      have hne : l ≠ [] := by rintro rfl; simp at hl
      rw [← List.dropLast_concat_getLast hne]
      exact h1 _ _ (ih _ (by simp [hl]))
  exact this _ l rfl
theorem big_lt : ∀ l : List UInt8, big l < 256 ^ l.length := by
  intro l
  induction l using snoc_ind with
  | h0 => simp [big]
  | h1 l c ih =>
    rw [big_snoc, List.length_append, List.length_singleton, Nat.pow_succ]
    have := c.toNat_lt
    omega
theorem beW_big : ∀ l : List UInt8, beW (big l) l.length = l := by
  intro l
  induction l using snoc_ind with
  | h0 => rfl
  | h1 l c ih =>
    rw [List.length_append, List.length_singleton, beW_div, big_snoc]
    have := c.toNat_lt
    rw [show (256 * big l + c.toNat) / 256 = big l from by omega, ih]
    congr 2
    apply UInt8.toNat_inj.1
    rw [UInt8.toNat_ofNat']
    omega
/-- The bits and the bytes of a number. -/
theorem bitLenAux_wid : ∀ (f n : Nat), n < 2 ^ f → (Lib.bitLenAux f n + 7) / 8 = wid n := by
  intro f
  induction f using Nat.strongRecOn with
  | ind f ih =>
    intro n hn
    by_cases h0 : n = 0
    · subst h0
      rw [wid_zero]
      cases f with
      | zero => rfl
      | succ f => simp [Lib.bitLenAux]
    · by_cases h8 : f < 8
      · have hlt : n < 256 := Nat.lt_of_lt_of_le hn (Nat.le_trans (Nat.pow_le_pow_right (by omega) (by omega : f ≤ 8)) (by decide))
        have hw : wid n = 1 := by rw [wid_pos (by omega), show n / 256 = 0 from by omega, wid_zero]
        rw [hw]
        have h1 : ∀ g m, Lib.bitLenAux g m ≤ g := by
          intro g
          induction g with
          | zero => intro m; simp [Lib.bitLenAux]
          | succ g ihg => intro m; unfold Lib.bitLenAux; have := ihg (m / 2); split <;> omega
        have h2 : 1 ≤ Lib.bitLenAux f n := by
          cases f with
          | zero => simp at hn; omega
          | succ f => simp [Lib.bitLenAux, h0]
        have := h1 f n
        omega
      · obtain ⟨g, rfl⟩ : ∃ g, f = g + 8 := ⟨f - 8, by omega⟩
        have hg : n / 256 < 2 ^ g := by
          rw [Nat.div_lt_iff_lt_mul (by omega)]
          rw [Nat.pow_add] at hn
          omega
        by_cases h256 : n / 256 = 0
        · have hlt : n < 256 := by omega
          have hw : wid n = 1 := by rw [wid_pos (by omega), h256, wid_zero]
          rw [hw]
          have hz : ∀ g, Lib.bitLenAux g 0 = 0 := by intro g; cases g <;> simp [Lib.bitLenAux]
          have : ∀ (k g m : Nat), m < 2 ^ k → 0 < m → 1 ≤ Lib.bitLenAux (g + k) m ∧ Lib.bitLenAux (g + k) m ≤ k := by
            intro k
            induction k with
            | zero => intro g m hm h0; simp at hm; omega
            | succ k ihk =>
              intro g m hm h0
              rw [← Nat.add_assoc]
              unfold Lib.bitLenAux
              rw [if_neg (by omega)]
              by_cases hm2 : m / 2 = 0
              · rw [hm2, hz]; omega
              · have := ihk g (m / 2) (by rw [Nat.pow_succ] at hm; omega) (by omega)
                omega
          have := this 8 g n (by simpa using hlt) (by omega)
          omega
        · have step : ∀ g m, m ≠ 0 → Lib.bitLenAux (g + 1) m = 1 + Lib.bitLenAux g (m / 2) := by intro g m hm; simp [Lib.bitLenAux, hm]
          have e : Lib.bitLenAux (g + 8) n = 8 + Lib.bitLenAux g (n / 256) := by
            rw [step (g + 7) n (by omega), step (g + 6) _ (by omega), step (g + 5) _ (by omega), step (g + 4) _ (by omega), step (g + 3) _ (by omega), step (g + 2) _ (by omega), step (g + 1) _ (by omega), step g _ (by omega)]
            have : n / 2 / 2 / 2 / 2 / 2 / 2 / 2 / 2 = n / 256 := by omega
            rw [this]
            omega
          rw [e, wid_pos (by omega), ← ih g (by omega) (n / 256) hg]
          omega
theorem bitLen_wid {n : Nat} (h : n < 18446744073709551616) : (Lib.bitLen n + 7) / 8 = wid n := bitLenAux_wid 64 n (by simpa using h)
theorem bitLen_le (n : Nat) : Lib.bitLen n ≤ 64 := by
  have h1 : ∀ g m, Lib.bitLenAux g m ≤ g := by
    intro g
    induction g with
    | zero => intro m; simp [Lib.bitLenAux]
    | succ g ihg => intro m; unfold Lib.bitLenAux; have := ihg (m / 2); split <;> omega
  exact h1 64 n
theorem row_length_le {n : Nat} (h : n < 18446744073709551616) : (row n).length ≤ 9 := by
  unfold row
  split
  · simp
  · have := wid_le8 h
    simp [be]
    omega
/-- The number whose row a text begins with, and how many bytes that has. -/
def readVar (s : List UInt8) : Option (Nat × Nat) :=
  match s with
  | [] => none
  | c :: r =>
    if c.toNat < 248 then some (c.toNat, 1)
    else
      let k := c.toNat - 247
      if r.length < k then none
      else if behind (big (r.take k)) = k then some (big (r.take k), 1 + k) else none
theorem readVar_row {s : List UInt8} {n k : Nat} (h : readVar s = some (n, k)) : s.take k = row n ∧ k ≤ s.length ∧ n < 18446744073709551616 ∧ 0 < k := by
  cases s with
  | nil => simp [readVar] at h
  | cons c r =>
    simp only [readVar] at h
    have hc := c.toNat_lt
    split at h
    · cases h
      refine ⟨?_, by simp, by omega, by omega⟩
      rename_i hlt
      unfold row
      rw [if_pos hlt]
      simp
    · rename_i hge
      split at h
      · cases h
      · rename_i hlen
        split at h
        · rename_i hb
          simp only [Option.some.injEq, Prod.mk.injEq] at h
          obtain ⟨rfl, rfl⟩ := h
          have hl : (r.take (c.toNat - 247)).length = c.toNat - 247 := by simp; omega
          have hlt := big_lt (r.take (c.toNat - 247))
          refine ⟨?_, by simp; omega, ?_, by omega⟩
          · unfold behind at hb
            split at hb
            · omega
            · rename_i hn
              unfold row
              rw [if_neg hn, hb, show 1 + (c.toNat - 247) = (c.toNat - 247) + 1 from by omega, List.take_succ_cons, List.cons.injEq]
              constructor
              · apply UInt8.toNat_inj.1
                rw [UInt8.toNat_ofNat']
                omega
              · unfold be
                rw [hb]
                conv => lhs; rw [← beW_big (r.take (c.toNat - 247)), hl]
          · rw [hl] at hlt
            refine Nat.lt_of_lt_of_le hlt ?_
            have h8 : 256 ^ (c.toNat - 247) ≤ 256 ^ 8 := Nat.pow_le_pow_right (by omega) (by omega)
            have e8 : (256 : Nat) ^ 8 = 18446744073709551616 := by decide
            omega
        · cases h
theorem readVar_of_row {n : Nat} (h : n < 18446744073709551616) (r : List UInt8) : readVar (row n ++ r) = some (n, (row n).length) := by
  unfold row
  split
  · rename_i hlt
    simp only [List.singleton_append, readVar, UInt8.toNat_ofNat']
    rw [if_pos (by omega)]
    simp
    omega
  · rename_i hge
    have h8 := wid_le8 h
    have h1 := wid_ge1 (n := n) (by omega)
    simp only [List.cons_append, readVar, UInt8.toNat_ofNat']
    have e : (247 + wid n) % 2 ^ 8 = 247 + wid n := by omega
    rw [e, if_neg (by omega), if_neg (by simp [be])]
    have hk : 247 + wid n - 247 = wid n := by omega
    have ht : (be n ++ r).take (wid n) = be n := by
      rw [List.take_append_of_le_length (by simp [be])]
      exact List.take_of_length_le (by simp [be])
    rw [hk, ht, big_be]
    unfold behind
    rw [if_neg hge, if_pos rfl]
    simp [be]
    try omega
theorem row_iff {c : UInt8} {r : List UInt8} (hc : 248 ≤ c.toNat) (hl : c.toNat - 247 ≤ r.length) :
    row (big (r.take (c.toNat - 247))) = c :: r.take (c.toNat - 247) ↔ behind (big (r.take (c.toNat - 247))) = c.toNat - 247 := by
  have hlen : (r.take (c.toNat - 247)).length = c.toNat - 247 := by simp; omega
  have hclt := c.toNat_lt
  constructor
  · intro h
    have h1 : (row (big (r.take (c.toNat - 247)))).length = c.toNat - 247 + 1 := by rw [h]; simp [hlen]
    unfold row at h1
    unfold behind
    split at h1
    · simp at h1; omega
    · rename_i hn
      rw [if_neg hn]
      simpa [be] using h1
  · intro h
    unfold behind at h
    split at h
    · omega
    · rename_i hn
      unfold row
      rw [if_neg hn, h, List.cons.injEq]
      constructor
      · apply UInt8.toNat_inj.1
        rw [UInt8.toNat_ofNat']
        omega
      · unfold be
        rw [h]
        have hh := beW_big (r.take (c.toNat - 247))
        rw [hlen] at hh
        exact hh
/-- Texts, each behind its length's row. -/
def textB (ss : List (List UInt8)) : List UInt8 := ss.flatMap fun s => row s.length ++ s
def readText (s : List UInt8) (most : Nat) : Option (List UInt8 × Nat) :=
  match readVar s with
  | none => none
  | some (n, k) => if n ≤ most ∧ n ≤ s.length - k then some ((s.drop k).take n, k + n) else none
theorem big_take_succ (l : List UInt8) (i : Nat) (hi : i < l.length) : big (l.take (i + 1)) = 256 * big (l.take i) + l[i].toNat := by
  rw [List.take_succ_eq_append_getElem hi, big_snoc]
theorem le_sum {l : List Nat} {n : Nat} (h : n ∈ l) : n ≤ l.sum := by
  induction l with
  | nil => simp at h
  | cons x l ih =>
    rw [List.sum_cons]
    rcases List.mem_cons.1 h with rfl | h
    · omega
    · have := ih h; omega
theorem textB_length : ∀ (ss : List (List UInt8)), (∀ s ∈ ss, s.length < 18446744073709551616) → (textB ss).length ≤ 9 * ss.length + (ss.map List.length).sum
  | [], _ => by simp [textB]
  | s :: ss, h => by
    have h0 : s.length < 18446744073709551616 := h s (List.mem_cons_self)
    have h1 := row_length_le h0
    have h2 := textB_length ss fun x hx => h x (List.mem_cons_of_mem _ hx)
    have e : textB (s :: ss) = row s.length ++ s ++ textB ss := by simp [textB]
    rw [e, List.length_append, List.length_append, List.length_cons, List.map_cons, List.sum_cons]
    omega
end Go.M
end
section
set_option linter.unusedVariables false
namespace Go.M
/-- A bit falls out of a sum. -/
def gB (r : Nat) : Nat := if r % 2 = 1 then (r / 2) ^^^ 3988292384 else r / 2
def g4 (r : Nat) : Nat := gB (gB (gB (gB r)))
def crcStep (r : Nat) (c : UInt8) : Nat := g4 (g4 (r ^^^ c.toNat))
def crcB (s : List UInt8) : Nat := (s.foldl crcStep 4294967295) ^^^ 4294967295
def crcT : List Nat := [0, 498536548, 997073096, 651767980, 1994146192, 1802195444, 1303535960, 1342533948, 3988292384, 4027552580, 3604390888, 3412177804, 2607071920, 2262029012, 2685067896, 3183342108]
theorem xor_mod2 (a b : Nat) : (a ^^^ b) % 2 = (a % 2) ^^^ (b % 2) := by
  have := Nat.xor_mod_two_pow (a := a) (b := b) (n := 1)
  simpa using this
theorem xor_div2 (a b : Nat) : (a ^^^ b) / 2 = (a / 2) ^^^ (b / 2) := by
  have := Nat.xor_div_two_pow (a := a) (b := b) (n := 1)
  simpa using this
theorem gB_xor (a b : Nat) : gB (a ^^^ b) = gB a ^^^ gB b := by
  unfold gB
  rw [xor_mod2, xor_div2]
  rcases Nat.mod_two_eq_zero_or_one a with ha | ha <;> rcases Nat.mod_two_eq_zero_or_one b with hb | hb <;> simp only [ha, hb]
  · simp
  · simp [Nat.xor_assoc]
  · simp only [Nat.xor_zero, if_true]
    rw [if_neg (by decide), Nat.xor_assoc, Nat.xor_comm (b / 2), ← Nat.xor_assoc]
  · simp only [Nat.xor_self, if_true]
    rw [if_neg (by decide)]
    rw [Nat.xor_assoc, ← Nat.xor_assoc 3988292384, Nat.xor_comm 3988292384 (b / 2), Nat.xor_assoc (b / 2), Nat.xor_self, Nat.xor_zero]
theorem g4_xor (a b : Nat) : g4 (a ^^^ b) = g4 a ^^^ g4 b := by simp only [g4, gB_xor]
theorem gB_two (a : Nat) : gB (2 * a) = a := by
  unfold gB
  rw [if_neg (by omega)]
  omega
theorem g4_hi (a : Nat) : g4 (16 * a) = a := by
  unfold g4
  rw [show 16 * a = 2 * (2 * (2 * (2 * a))) from by omega, gB_two, gB_two, gB_two, gB_two]
theorem split16 (x : Nat) : x = (16 * (x / 16)) ^^^ (x % 16) := by
  have h := Nat.two_pow_add_eq_or_of_lt (i := 4) (b := x % 16) (by omega) (x / 16)
  have h2 : 2 ^ 4 * (x / 16) ||| x % 16 = 2 ^ 4 * (x / 16) ^^^ x % 16 := by
    apply Nat.eq_of_testBit_eq
    intro i
    rw [Nat.testBit_or, Nat.testBit_xor]
    by_cases hi : i < 4
    · have : (2 ^ 4 * (x / 16)).testBit i = false := by
        rw [Nat.testBit_two_pow_mul]
        simp; omega
      rw [this]; simp
    · have : (x % 16).testBit i = false := by
        apply Nat.testBit_lt_two_pow
        have : 2 ^ 4 ≤ 2 ^ i := Nat.pow_le_pow_right (by omega) (by omega)
        omega
      rw [this]; simp
  have e : (2 : Nat) ^ 4 = 16 := by decide
  rw [e] at h h2
  rw [← h2, ← h]
  omega
theorem g4_lo : ∀ n, n < 16 → crcT[n]? = some (g4 n) := by decide
theorem g4_tab (x : Nat) : ∃ t, crcT[x % 16]? = some t ∧ g4 x = (x / 16) ^^^ t := by
  refine ⟨_, g4_lo (x % 16) (Nat.mod_lt _ (by omega)), ?_⟩
  conv => lhs; rw [split16 x]
  rw [g4_xor, g4_hi]
theorem xor_lt32 {a b : Nat} (ha : a < 4294967296) (hb : b < 4294967296) : a ^^^ b < 4294967296 := Nat.xor_lt_two_pow (n := 32) ha hb
theorem gB_lt {r : Nat} (h : r < 4294967296) : gB r < 4294967296 := by
  unfold gB
  split
  · exact xor_lt32 (by omega) (by decide)
  · omega
theorem g4_lt {r : Nat} (h : r < 4294967296) : g4 r < 4294967296 := gB_lt (gB_lt (gB_lt (gB_lt h)))
theorem crcStep_lt {r : Nat} (h : r < 4294967296) (c : UInt8) : crcStep r c < 4294967296 := g4_lt (g4_lt (xor_lt32 h (by have := c.toNat_lt; omega)))
theorem crcFold_lt : ∀ (s : List UInt8) (r : Nat), r < 4294967296 → s.foldl crcStep r < 4294967296
  | [], r, h => h
  | c :: s, r, h => crcFold_lt s _ (crcStep_lt h c)
theorem crcB_lt (s : List UInt8) : crcB s < 4294967296 := xor_lt32 (crcFold_lt s _ (by decide)) (by decide)
/-- .. as the document reckons: bit by bit. -/
def dStep (c : Nat) (r k : Nat) : Nat := if (r ^^^ (c / 2 ^ k)) % 2 = 1 then (r / 2) ^^^ 3988292384 else r / 2
theorem dStep_g (c r k : Nat) : dStep c r k ^^^ (c / 2 ^ (k + 1)) = gB (r ^^^ (c / 2 ^ k)) := by
  unfold dStep gB
  rw [xor_div2, Nat.div_div_eq_div_mul, ← Nat.pow_succ]
  split
  · rw [Nat.xor_assoc, Nat.xor_comm 3988292384, ← Nat.xor_assoc]
  · rfl
theorem dStep_lt {c r k : Nat} (h : r < 4294967296) : dStep c r k < 4294967296 := by
  unfold dStep
  split
  · exact xor_lt32 (by omega) (by decide)
  · omega
def dSteps (c r : Nat) : Nat → Nat
  | 0 => r
  | k + 1 => dStep c (dSteps c r k) k
theorem dSteps_lt {c r : Nat} (h : r < 4294967296) : ∀ k, dSteps c r k < 4294967296
  | 0 => h
  | k + 1 => dStep_lt (dSteps_lt h k)
theorem dSteps_8 (c : UInt8) (r : Nat) : dSteps c.toNat r 8 = crcStep r c := by
  have h : ∀ k, dSteps c.toNat r (k + 1) ^^^ (c.toNat / 2 ^ (k + 1)) = gB (dSteps c.toNat r k ^^^ (c.toNat / 2 ^ k)) := fun k => dStep_g _ _ _
  have e : dSteps c.toNat r 8 = dSteps c.toNat r 8 ^^^ (c.toNat / 2 ^ 8) := by
    have := c.toNat_lt
    rw [show c.toNat / 2 ^ 8 = 0 from by omega, Nat.xor_zero]
  rw [e, h 7, h 6, h 5, h 4, h 3, h 2, h 1, h 0]
  simp [dSteps, crcStep, g4]
structure CellV where
  first : Bool
  last : Bool
  num : Nat
  data : List UInt8
  deriving DecidableEq
def mayC (c : CellV) : Bool := decide (c.num ≤ 65535) && (c.first == decide (c.num = 0)) && (decide (c.data.length = 24) || (decide (c.data.length < 24) && c.last && (decide (0 < c.data.length) || c.first)))
def markC (c : CellV) : Nat := 64 + (if c.first then 1 else 0) + (if c.last then 2 else 0)
def headC (c : CellV) : List UInt8 := [UInt8.ofNat (markC c), UInt8.ofNat c.data.length, UInt8.ofNat c.num, UInt8.ofNat (c.num / 256)] ++ c.data ++ List.replicate (24 - c.data.length) 0
def le4 (n : Nat) : List UInt8 := [UInt8.ofNat n, UInt8.ofNat (n / 256), UInt8.ofNat (n / 65536), UInt8.ofNat (n / 16777216)]
def mkC (c : CellV) : List UInt8 := headC c ++ le4 (crcB (headC c))
theorem mayC_len {c : CellV} (h : mayC c = true) : c.data.length ≤ 24 := by
  simp only [mayC, Bool.and_eq_true, Bool.or_eq_true, decide_eq_true_eq] at h
  omega
theorem mayC_num {c : CellV} (h : mayC c = true) : c.num ≤ 65535 := by
  simp only [mayC, Bool.and_eq_true, Bool.or_eq_true, decide_eq_true_eq] at h
  omega
theorem headC_len {c : CellV} (h : c.data.length ≤ 24) : (headC c).length = 28 := by
  simp [headC]
  omega
theorem mkC_len {c : CellV} (h : c.data.length ≤ 24) : (mkC c).length = 32 := by
  unfold mkC
  rw [List.length_append, headC_len h]
  rfl
/-- The cell that some bytes would be. -/
def parC (s : List UInt8) : CellV := ⟨decide ((s.getD 0 0).toNat % 2 = 1), decide ((s.getD 0 0).toNat / 2 % 2 = 1), (s.getD 2 0).toNat + 256 * (s.getD 3 0).toNat, (s.drop 4).take (s.getD 1 0).toNat⟩
def readC (s : List UInt8) : Option CellV := if s.length = 32 ∧ (s.getD 1 0).toNat ≤ 24 ∧ mayC (parC s) = true ∧ mkC (parC s) = s then some (parC s) else none
theorem readC_mk {c : CellV} (h : mayC c = true) : readC (mkC c) = some c := by
  have hl := mayC_len h
  have hn := mayC_num h
  have hp : parC (mkC c) = c := by
    obtain ⟨f, l, n, d⟩ := c
    simp only at hl hn
    have e : mkC ⟨f, l, n, d⟩ = UInt8.ofNat (markC ⟨f, l, n, d⟩) :: UInt8.ofNat d.length :: UInt8.ofNat n :: UInt8.ofNat (n / 256) :: (d ++ (List.replicate (24 - d.length) 0 ++ le4 (crcB (headC ⟨f, l, n, d⟩)))) := by
      simp [mkC, headC]
    rw [e]
    unfold parC
    simp only [List.getD_cons_zero, List.getD_cons_succ, List.drop_succ_cons, List.drop_zero, UInt8.toNat_ofNat', CellV.mk.injEq]
    refine ⟨?_, ?_, by omega, ?_⟩
    · cases f <;> cases l <;> simp [markC]
    · cases f <;> cases l <;> simp [markC]
    · rw [show d.length % 2 ^ 8 = d.length from by omega, List.take_left]
  unfold readC
  have hb : ((mkC c).getD 1 0).toNat ≤ 24 := by
    have e : (mkC c).getD 1 0 = UInt8.ofNat c.data.length := rfl
    rw [e, UInt8.toNat_ofNat']
    omega
  rw [hp, if_pos ⟨mkC_len hl, hb, h, rfl⟩]
theorem readC_some {s : List UInt8} {c : CellV} (h : readC s = some c) : mayC c = true ∧ mkC c = s := by
  unfold readC at h
  split at h
  · rename_i hc
    cases h
    exact ⟨hc.2.2.1, hc.2.2.2⟩
  · cases h
end Go.M
end
section
set_option linter.unusedVariables false
namespace Go.M
/-- The cell with number n of what is left of a record. -/
def cellOf (n : Nat) (r : List UInt8) : CellV := ⟨decide (n = 0), decide (r.length ≤ 24), n, r.take 24⟩
/-- The cells of what is left of a record, from number n on. -/
def frm (n : Nat) (r : List UInt8) : List UInt8 := if h : 24 < r.length then mkC (cellOf n r) ++ frm (n + 1) (r.drop 24) else mkC (cellOf n r)
termination_by r.length
decreasing_by rw [List.length_drop]; omega
theorem frm_gt {n : Nat} {r : List UInt8} (h : 24 < r.length) : frm n r = mkC (cellOf n r) ++ frm (n + 1) (r.drop 24) := by
  conv => lhs; unfold frm
  rw [dif_pos h]
theorem frm_le {n : Nat} {r : List UInt8} (h : ¬ 24 < r.length) : frm n r = mkC (cellOf n r) := by
  conv => lhs; unfold frm
  rw [dif_neg h]
theorem cellOf_len (n : Nat) (r : List UInt8) : (cellOf n r).data.length ≤ 24 := by simp [cellOf]; omega
theorem cellOf_may {n : Nat} {r : List UInt8} (hn : n ≤ 65535) (h : n = 0 ∨ r ≠ []) : mayC (cellOf n r) = true := by
  have h0 : n = 0 ∨ 0 < r.length := h.imp id (List.length_pos_iff.2 ·)
  show (decide (n ≤ 65535) && (decide (n = 0) == decide (n = 0)) && (decide ((r.take 24).length = 24) || (decide ((r.take 24).length < 24) && decide (r.length ≤ 24) && (decide (0 < (r.take 24).length) || decide (n = 0))))) = true
  rw [beq_self_eq_true]
  simp only [Bool.and_eq_true, Bool.or_eq_true, decide_eq_true_eq, List.length_take]
  refine ⟨⟨hn, trivial⟩, ?_⟩
  by_cases h24 : 24 ≤ r.length
  · left; omega
  · right
    exact ⟨⟨by omega, by omega⟩, by omega⟩
/-- How many cells a record has. -/
def nCells (l : Nat) : Nat := if l = 0 then 1 else (l + 23) / 24
theorem frm_len (n : Nat) (r : List UInt8) : (frm n r).length = 32 * nCells r.length := by
  induction r using (measure List.length).wf.induction generalizing n with
  | h r ih =>
    unfold frm
    split
    · rename_i h
      rw [List.length_append, mkC_len (cellOf_len _ _), ih (r.drop 24) (by show (r.drop 24).length < r.length; rw [List.length_drop]; omega)]
      rw [List.length_drop]
      unfold nCells
      rw [if_neg (by omega), if_neg (by omega)]
      omega
    · rename_i h
      rw [mkC_len (cellOf_len _ _)]
      unfold nCells
      split <;> omega
/-- The record at a text's beginning, its cells counted from n on, behind what there is of it: it, and how many cells it took. -/
def rdF (n : Nat) (acc s : List UInt8) : Option (List UInt8 × Nat) :=
  if h : 32 ≤ s.length then
    match readC (s.take 32) with
    | none => none
    | some c => if c.num = n ∧ acc.length + c.data.length ≤ 524288 then (if c.last then some (acc ++ c.data, n + 1) else rdF (n + 1) (acc ++ c.data) (s.drop 32)) else none
  else none
termination_by s.length
decreasing_by rw [List.length_drop]; omega
theorem rdF_some (n : Nat) (acc s r : List UInt8) (m : Nat) (ha : acc.length = 24 * n) (h : rdF n acc s = some (r, m)) : n < m ∧ 32 * (m - n) ≤ s.length ∧ nCells r.length = m ∧ r.length ≤ 524288 := by
  induction s using (measure List.length).wf.induction generalizing n acc with
  | h s ih =>
    unfold rdF at h
    split at h
    · rename_i h32
      cases hr : readC (s.take 32) with
      | none => rw [hr] at h; cases h
      | some c =>
        rw [hr] at h
        simp only at h
        obtain ⟨hm, _⟩ := readC_some hr
        split at h
        · rename_i hc
          simp only [mayC, Bool.and_eq_true, Bool.or_eq_true, decide_eq_true_eq, beq_iff_eq] at hm
          split at h
          · rename_i hl
            simp only [Option.some.injEq, Prod.mk.injEq] at h
            obtain ⟨rfl, rfl⟩ := h
            refine ⟨by omega, by omega, ?_, by rw [List.length_append]; omega⟩
            rw [List.length_append, ha]
            unfold nCells
            rcases hm.2 with h24 | ⟨⟨h24, _⟩, h0⟩
            · rw [if_neg (by omega)]; omega
            · rcases h0 with h0 | h0
              · rw [if_neg (by omega)]; omega
              · have : c.num = 0 := by
                  have := hm.1.2
                  rw [h0] at this
                  simpa using this.symm
                split <;> omega
          · rename_i hl
            have h24 : c.data.length = 24 := by
              rcases hm.2 with h24 | ⟨⟨_, h1⟩, _⟩
              · exact h24
              · exact absurd h1 hl
            have := ih (s.drop 32) (by show (s.drop 32).length < s.length; rw [List.length_drop]; omega) (n + 1) (acc ++ c.data) (by rw [List.length_append]; omega) h
            rw [List.length_drop] at this
            omega
        · cases h
    · cases h
/-- The records that are whole, and how many bytes they take. -/
def readF (s : List UInt8) : List (List UInt8) × Nat :=
  match h : rdF 0 [] s with
  | none => ([], 0)
  | some (r, m) => (r :: (readF (s.drop (32 * m))).1, 32 * m + (readF (s.drop (32 * m))).2)
termination_by s.length
decreasing_by
  all_goals
    have := rdF_some 0 [] s r m rfl h
    rw [List.length_drop]
    omega
theorem readF_none {s : List UInt8} (h : rdF 0 [] s = none) : readF s = ([], 0) := by
  unfold readF
  split
  · rfl
  · rename_i h'; rw [h] at h'; cases h'
theorem readF_some {s r : List UInt8} {m : Nat} (h : rdF 0 [] s = some (r, m)) : readF s = (r :: (readF (s.drop (32 * m))).1, 32 * m + (readF (s.drop (32 * m))).2) := by
  conv => lhs; unfold readF
  split
  · rename_i h'; rw [h] at h'; cases h'
  · rename_i r' m' h'
    rw [h] at h'
    cases h'
    rfl
end Go.M
end
section
set_option linter.unusedVariables false
namespace Go.M
open Go.Lib
def valF (a : Nat) (c : UInt8) : Nat := 10 * a + (c.toNat - 48)
def val (l : List UInt8) : Nat := l.foldl valF 0
def pad (n : Nat) : List UInt8 := List.replicate (8 - nDigits n) 48 ++ decDigits n
def nameB (word : List UInt8) (n : Nat) : List UInt8 := word ++ [46] ++ pad n
theorem dd_small {n : Nat} (h : n < 10) : decDigits n = [UInt8.ofNat (48 + n)] := decDigits_one h
theorem dd_big {n : Nat} (h : ¬ n < 10) : decDigits n = decDigits (n / 10) ++ [UInt8.ofNat (48 + n % 10)] := by rw [decDigits, dif_neg h]
theorem u8d {d : Nat} (h : d < 10) : (UInt8.ofNat (48 + d)).toNat = 48 + d := by rw [UInt8.toNat_ofNat']; omega
theorem val_dd (n : Nat) : val (decDigits n) = n := by
  induction n using Nat.strongRecOn with
  | ind n ih =>
    by_cases h : n < 10
    · rw [dd_small h]
      simp only [val, List.foldl_cons, List.foldl_nil, valF, u8d h]
      omega
    · rw [dd_big h]
      unfold val
      rw [List.foldl_append]
      have := ih (n / 10) (by omega)
      unfold val at this
      rw [this]
      simp only [List.foldl_cons, List.foldl_nil, valF, u8d (Nat.mod_lt n (by omega : 0 < 10))]
      omega
theorem val_zeros (k : Nat) (l : List UInt8) : val (List.replicate k 48 ++ l) = val l := by
  induction k with
  | zero => rfl
  | succ k ih =>
    rw [List.replicate_succ, List.cons_append]
    unfold val at *
    rw [List.foldl_cons]
    exact ih
theorem val_pad (n : Nat) : val (pad n) = n := by unfold pad; rw [val_zeros, val_dd]
def isD (c : UInt8) : Prop := 48 ≤ c.toNat ∧ c.toNat ≤ 57
theorem dd_digits (n : Nat) : ∀ c ∈ decDigits n, isD c := by
  induction n using Nat.strongRecOn with
  | ind n ih =>
    intro c hc
    by_cases h : n < 10
    · rw [dd_small h] at hc
      rw [List.mem_singleton] at hc
      subst hc
      unfold isD
      rw [u8d h]
      omega
    · rw [dd_big h] at hc
      rcases List.mem_append.1 hc with hc | hc
      · exact ih (n / 10) (by omega) c hc
      · rw [List.mem_singleton] at hc
        subst hc
        unfold isD
        rw [u8d (Nat.mod_lt n (by omega))]
        omega
theorem pad_digits (n : Nat) : ∀ c ∈ pad n, isD c := by
  intro c hc
  unfold pad at hc
  rcases List.mem_append.1 hc with hc | hc
  · rw [(List.mem_replicate.1 hc).2]; unfold isD; decide
  · exact dd_digits n c hc
theorem nD_le : ∀ (k n : Nat), n < 10 ^ k → nDigits n ≤ max k 1
  | 0, n, h => by
    have : n = 0 := by simpa using h
    subst this
    rw [nDigits_small (by omega)]
    omega
  | k + 1, n, h => by
    by_cases h10 : n < 10
    · rw [nDigits_small h10]; omega
    · rw [nDigits_big h10]
      have := nD_le k (n / 10) (by rw [Nat.pow_succ] at h; omega)
      by_cases hk : k = 0
      · subst hk; simp at h; omega
      · omega
theorem nD_pos (n : Nat) : 1 ≤ nDigits n := by
  by_cases h10 : n < 10
  · rw [nDigits_small h10]; omega
  · rw [nDigits_big h10]; omega
theorem nD_20 {n : Nat} (h : n < 18446744073709551616) : nDigits n ≤ 20 := by
  have := nD_le 20 n (Nat.lt_trans h (by decide))
  omega
theorem pad_len {n : Nat} (h : n < 18446744073709551616) : 8 ≤ (pad n).length ∧ (pad n).length ≤ 20 := by
  have := nD_20 h
  unfold pad
  rw [List.length_append, List.length_replicate, decDigits_length]
  omega
theorem nameB_inj {word : List UInt8} {n m : Nat} (h : nameB word n = nameB word m) : n = m := by
  unfold nameB at h
  have := List.append_cancel_left h
  rw [← val_pad n, ← val_pad m, this]
theorem valF_ge (l : List UInt8) (a : Nat) : a ≤ l.foldl valF a := by
  induction l generalizing a with
  | nil => exact Nat.le_refl _
  | cons c l ih => exact Nat.le_trans (by unfold valF; omega) (ih (valF a c))
theorem parseM (M : Nat) (hM : M ≤ 18446744073709551615) (l : List UInt8) (a : Nat) (hd : ∀ c ∈ l, isD c) (hv : l.foldl valF a ≤ M) : parseUintM M a l = .ok (l.foldl valF a) := by
  induction l generalizing a with
  | nil => rfl
  | cons c l ih =>
    have hc : 48 ≤ c.toNat ∧ c.toNat ≤ 57 := hd c (by simp)
    unfold parseUintM
    rw [List.foldl_cons] at hv ⊢
    have hge := valF_ge l (valF a c)
    have e : a * 10 + (c.toNat - 48) = valF a c := by unfold valF; omega
    rw [if_pos hc, if_neg (by omega), e, if_neg (by omega)]
    exact ih _ (fun x hx => hd x (by simp [hx])) hv
theorem parse_pad {n : Nat} (h : n < 18446744073709551616) : parseUintB 64 (pad n) = .ok n := by
  unfold parseUintB
  have hl := pad_len h
  rw [if_neg (by intro he; rw [he] at hl; simp at hl)]
  have hv : (pad n).foldl valF 0 = n := val_pad n
  rw [parseM _ (by decide) (pad n) 0 (pad_digits n) (by rw [hv]; omega), hv]
theorem trim_name (word : List UInt8) (n : Nat) : trimPrefix (nameB word n) (word ++ [46]) = pad n := by
  unfold trimPrefix hasPrefix nameB
  rw [if_pos (by rw [List.isPrefixOf_iff_prefix]; exact List.prefix_append _ _), List.drop_left]
/-- The number of a name, if it is one. -/
noncomputable def numB (word name : List UInt8) : Option Nat := open Classical in if h : ∃ n, n < 18446744073709551616 ∧ nameB word n = name then some (Classical.choose h) else none
theorem numB_name {word : List UInt8} {n : Nat} (h : n < 18446744073709551616) : numB word (nameB word n) = some n := by
  have hex : ∃ m, m < 18446744073709551616 ∧ nameB word m = nameB word n := ⟨n, h, rfl⟩
  unfold numB
  rw [dif_pos hex, nameB_inj (Classical.choose_spec hex).2]
theorem numB_none {word name : List UInt8} (h : ∀ n, n < 18446744073709551616 → nameB word n ≠ name) : numB word name = none := by
  unfold numB
  rw [dif_neg]
  rintro ⟨n, h1, h2⟩
  exact h n h1 h2
theorem numB_some {word name : List UInt8} {n : Nat} (h : numB word name = some n) : n < 18446744073709551616 ∧ nameB word n = name := by
  unfold numB at h
  split at h
  · rename_i hex
    cases h
    exact Classical.choose_spec hex
  · cases h
/-- What the document's loop still puts ahead of the digits that it has. -/
def front (n : Nat) (s : List UInt8) : List UInt8 := if n = 0 then List.replicate (8 - s.length) 48 ++ s else List.replicate (8 - (nDigits n + s.length)) 48 ++ decDigits n ++ s
theorem front_step {n : Nat} {s : List UInt8} (h : 0 < n ∨ s.length < 8) : front (n / 10) (UInt8.ofNat (48 + n % 10) :: s) = front n s := by
  unfold front
  by_cases h0 : n = 0
  · subst h0
    rw [if_pos (by omega), if_pos rfl]
    have hs : s.length < 8 := by omega
    have e : (UInt8.ofNat (48 + 0 % 10)) = 48 := by decide
    rw [e, List.length_cons]
    rw [show 8 - s.length = (8 - (s.length + 1)) + 1 by omega, List.replicate_succ', List.append_assoc]
    rfl
  · by_cases h10 : n < 10
    · rw [if_pos (by omega), if_neg h0, nDigits_small h10, dd_small h10, Nat.mod_eq_of_lt h10, List.length_cons, show 1 + s.length = s.length + 1 by omega, List.append_assoc]
      rfl
    · rw [if_neg (by omega), if_neg h0, nDigits_big h10, dd_big h10, List.length_cons, show nDigits (n / 10) + 1 + s.length = nDigits (n / 10) + (s.length + 1) by omega]
      simp only [List.append_assoc, List.cons_append, List.nil_append]
theorem front_nil (n : Nat) : front n [] = pad n := by
  unfold front pad
  by_cases h0 : n = 0
  · subst h0; decide +kernel
  · rw [if_neg h0, List.append_nil]
    rfl
end Go.M
end
