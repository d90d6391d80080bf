/- Layer 3: sums. Layer 3: cells are made. Layer 3: cells are read. Layer 4: frames. Layer 4: frames are read. Layer 4: all frames of a text. Layer 5: names by numbers. -/
import Derived.Test.YtemfgkhholobgaaGreatDoorSB
import Derived.Test.YtemfgkhholobgaaGreatDoorMA
import Derived.Test.YtemfgkhholobgaaGreatDoorCE
section
set_option maxRecDepth 100000
set_option linter.unusedVariables false
namespace Go.Proofs.W
open Go Go.Shal Go.Proofs Go.M
theorem xor32 {a b : Nat} (ha : a < 4294967296) (hb : b < 4294967296) : xor2I .u32 (a : Int) (b : Int) = ((a ^^^ b : Nat) : Int) := by
  unfold xor2I
  rw [show IntKind.bits .u32 = 32 from rfl, BitVec.ofInt_natCast, BitVec.ofInt_natCast, BitVec.toNat_xor, BitVec.toNat_ofNat, BitVec.toNat_ofNat, Nat.mod_eq_of_lt (by omega), Nat.mod_eq_of_lt (by omega)]
  have := xor_lt32 ha hb
  rw [w32 (by omega) (by omega)]
theorem xor8 {a b : Nat} (ha : a < 256) (hb : b < 256) : xor2I .u8 (a : Int) (b : Int) = ((a ^^^ b : Nat) : Int) := by
  unfold xor2I
  rw [show IntKind.bits .u8 = 8 from rfl, BitVec.ofInt_natCast, BitVec.ofInt_natCast, BitVec.toNat_xor, BitVec.toNat_ofNat, BitVec.toNat_ofNat, Nat.mod_eq_of_lt (by omega), Nat.mod_eq_of_lt (by omega)]
  have : a ^^^ b < 256 := Nat.xor_lt_two_pow (n := 8) ha hb
  rw [w8 (by omega) (by omega)]
theorem not32 {a : Nat} (ha : a < 4294967296) : xorI .u32 (a : Int) = ((a ^^^ 4294967295 : Nat) : Int) := by
  unfold xorI
  rw [show IntKind.bits .u32 = 32 from rfl, show (if IntKind.signed .u32 then (-1 : Int) else IntKind.max .u32) = ((4294967295 : Nat) : Int) from rfl, BitVec.ofInt_natCast, BitVec.ofInt_natCast, BitVec.toNat_xor, BitVec.toNat_ofNat, BitVec.toNat_ofNat, Nat.mod_eq_of_lt (by omega), Nat.mod_eq_of_lt (by omega), Nat.xor_comm]
  have := xor_lt32 ha (show 4294967295 < 4294967296 by decide)
  rw [w32 (by omega) (by omega)]
theorem and15 {a : Nat} (ha : a < 4294967296) : andI .u32 (a : Int) 15 = ((a % 16 : Nat) : Int) := by
  unfold andI
  rw [show IntKind.bits .u32 = 32 from rfl, show (15 : Int) = ((15 : Nat) : Int) from rfl, BitVec.ofInt_natCast, BitVec.ofInt_natCast, BitVec.toNat_and, BitVec.toNat_ofNat, BitVec.toNat_ofNat, Nat.mod_eq_of_lt (by omega), Nat.mod_eq_of_lt (by omega)]
  rw [show a &&& 15 = a % 16 from Nat.and_two_pow_sub_one_eq_mod a 4]
  rw [w32 (by omega) (by omega)]
theorem and1_32 {a : Nat} (ha : a < 4294967296) : andI .u32 (a : Int) 1 = ((a % 2 : Nat) : Int) := by
  unfold andI
  rw [show IntKind.bits .u32 = 32 from rfl, show (1 : Int) = ((1 : Nat) : Int) from rfl, BitVec.ofInt_natCast, BitVec.ofInt_natCast, BitVec.toNat_and, BitVec.toNat_ofNat, BitVec.toNat_ofNat, Nat.mod_eq_of_lt (by omega), Nat.mod_eq_of_lt (by omega)]
  rw [show a &&& 1 = a % 2 from Nat.and_two_pow_sub_one_eq_mod a 1]
  rw [w32 (by omega) (by omega)]
theorem tab_at {h : Heap} (ht : Tabs h) {x : Nat} {t : Nat} (hx : crcT[x]? = some t) {K : Int → PP} (hk : K (t : Int) h) :
    idxP 1 (some ⟨1, 0, none⟩) 16 (x : Int) (fun a => ld (.int .u32) a K) h := by
  have hlt : x < 16 := by
    have := (List.getElem?_eq_some_iff.1 hx).1
    simpa [crcT] using this
  refine ⟨_, rfl, ⟨by omega, by omega⟩, ?_⟩
  refine ld_of (s := .int .u32) (x := (t : Int)) ?_ hk
  rw [add_mk, Nat.zero_add, Int.toNat_natCast, Nat.mul_one]
  refine ht.crc x t ?_
  have e : crcTab = crcT.map fun (n : Nat) => (n : Int) := by decide
  rw [e, List.getElem?_map, hx]
  rfl
theorem crcT_lt : ∀ t ∈ crcT, t < 4294967296 := by decide
theorem crc_spec {h : Heap} {s : Sl} {x : Bytes} {Q : Int → PP} (ht : Tabs h) (hs : Sees 1 (fun l => [encS l]) h s [x]) (hl : x.length < 4611686018427387904)
    (hQ : ∀ h', Ext h h' → Q (crcB x : Int) h') : cell_Crc.C s Q h := by
  apply cell_Crc.ok
  unfold cell_Crc.F
  have hlen := hs.len
  refine ⟨fun n i h' => ∃ k : Nat, k ≤ 1 ∧ i = (k : Int) ∧ n = ((if k = 0 then 4294967295 else x.foldl crcStep 4294967295 : Nat) : Int) ∧ Ext h h', fun _ i _ => 1 - i.toNat, ⟨0, by omega, rfl, rfl, Ext.refl _⟩, ?_⟩
  rintro ⟨n, i, _⟩ h1 ⟨k, hk, hi, hn, hu⟩
  dsimp only at hi hn hu
  subst hi hn
  refine ifB_of (fun hc => ?_) (fun hc => ?_)
  · have hk0 : k = 0 := by have := of_decide_eq_true hc; dsimp only at this; simp at hlen; omega
    subst hk0
    dsimp only
    refine Sees.idx1 (enc := encS) (hs.ext hu) rfl (x := x) rfl fun a ha => ?_
    refine ld_of (s := .str) ha ?_
    refine ofStr_sees fun p c h2 u2 s2 => ?_
    refine ⟨fun r j h' => ∃ m : Nat, m ≤ x.length ∧ j = (m : Int) ∧ r = (((x.take m).foldl crcStep 4294967295 : Nat) : Int) ∧ Ext h2 h', fun _ j _ => x.length - j.toNat, ⟨0, by omega, rfl, rfl, Ext.refl _⟩, ?_⟩
    rintro ⟨r, j, _⟩ h3 ⟨m, hm, hj, hr, u3⟩
    dsimp only at hj hr u3
    subst hj hr
    have t3 := (ht.ext (hu.trans u2)).ext u3
    refine ifB_of (fun hc => ?_) (fun hc => ?_)
    · have hm1 : m < x.length := by have := of_decide_eq_true hc; dsimp only at this; omega
      have hlt := crcFold_lt (x.take m) 4294967295 (by decide)
      have hb := x[m].toNat_lt
      dsimp only
      refine Sees.idx1 (enc := fun (b : UInt8) => Value.int .u8 (b.toNat : Int)) (s2.ext u3) rfl (List.getElem?_eq_getElem hm1) fun a ha => ?_
      refine ld_of (s := .int .u8) ha ⟨by decide, ?_⟩
      have h1 := xor_lt32 hlt (show x[m].toNat < 4294967296 by omega)
      have e16 : (2 : Int) ^ (min (4 : Int).toNat (IntKind.bits .u32)) = ((16 : Nat) : Int) := by decide
      rw [w32 (x := ((x[m].toNat : Nat) : Int)) (by omega) (by omega), xor32 hlt (by omega), and15 h1, e16, fdiv_nat]
      obtain ⟨t1, tt1, te1⟩ := g4_tab ((x.take m).foldl crcStep 4294967295 ^^^ x[m].toNat)
      refine tab_at t3 tt1 ⟨by decide, ?_⟩
      have ht1 : t1 < 4294967296 := crcT_lt t1 (List.mem_of_getElem? tt1)
      have hg1 := g4_lt h1
      rw [xor32 (by omega) ht1, ← te1, and15 hg1]
      obtain ⟨t2, tt2, te2⟩ := g4_tab (g4 ((x.take m).foldl crcStep 4294967295 ^^^ x[m].toNat))
      have ht2 : t2 < 4294967296 := crcT_lt t2 (List.mem_of_getElem? tt2)
      refine tab_at t3 tt2 ?_
      rw [fdiv_nat, xor32 (by omega) ht2, ← te2, wi (by omega) (by omega)]
      refine ⟨⟨m + 1, by omega, rfl, ?_, u3⟩, by dsimp only [unc]; omega⟩
      rw [List.take_succ_eq_append_getElem hm1, List.foldl_append]
      rfl
    · have hm1 : m = x.length := by have := of_decide_eq_false hc; dsimp only at this; omega
      subst hm1
      rw [List.take_length]
      refine ⟨⟨1, by omega, rfl, rfl, (hu.trans u2).trans u3⟩, ?_⟩
      show 1 - (IntKind.wrap .i64 (((0 : Nat) : Int) + 1)).toNat < 1 - (((0 : Nat) : Int)).toNat
      decide
  · have hk1 : k = 1 := by have := of_decide_eq_false hc; dsimp only at this; simp at hlen; omega
    subst hk1
    have hlt := crcFold_lt x 4294967295 (by decide)
    rw [if_neg (by decide), not32 hlt]
    exact hQ _ hu
theorem rcrc_spec {h : Heap} {x : Bytes} {Q : Int → PP} (hl : x.length < 4611686018427387904) (hQ : ∀ h', Ext h h' → Q (crcB x : Int) h') : ref03_Crc.C x Q h := by
  apply ref03_Crc.ok
  unfold ref03_Crc.F
  refine ⟨fun r j h' => ∃ m : Nat, m ≤ x.length ∧ j = (m : Int) ∧ r = (((x.take m).foldl crcStep 4294967295 : Nat) : Int) ∧ Ext h h', fun _ j _ => x.length - j.toNat, ⟨0, by omega, rfl, rfl, Ext.refl _⟩, ?_⟩
  rintro ⟨r, j, _⟩ h3 ⟨m, hm, hj, hr, u3⟩
  dsimp only at hj hr u3
  subst hj hr
  have hlt := crcFold_lt (x.take m) 4294967295 (by decide)
  refine ifB_of (fun hc => ?_) (fun hc => ?_)
  · have hm1 : m < x.length := by have := of_decide_eq_true hc; dsimp only at this; omega
    have hb := x[m].toNat_lt
    dsimp only
    refine ⟨fun r j h' => ∃ k : Nat, k ≤ 8 ∧ j = (k : Int) ∧ r = ((dSteps x[m].toNat ((x.take m).foldl crcStep 4294967295) k : Nat) : Int) ∧ Ext h h', fun _ j _ => 8 - j.toNat, ⟨0, by omega, rfl, rfl, u3⟩, ?_⟩
    rintro ⟨r, j, _⟩ h4 ⟨k, hk, hj, hr, u4⟩
    dsimp only at hj hr u4
    subst hj hr
    have hd := dSteps_lt (c := x[m].toNat) hlt k
    refine ifB_of (fun hc => ?_) (fun hc => ?_)
    · have hk1 : k < 8 := by have := of_decide_eq_true hc; dsimp only at this; omega
      refine joinT_dup ?_
      dsimp only
      refine atS_of (n := m) rfl (List.getElem?_eq_getElem hm1) ?_
      rw [wu (x := (k : Int)) (by omega) (by omega)]
      refine ⟨by omega, by decide, ?_⟩
      have ek : min ((k : Int)).toNat (IntKind.bits .u32) = k := by rw [show IntKind.bits .u32 = 32 from rfl]; omega
      have e2 : (2 : Int) ^ k = ((2 ^ k : Nat) : Int) := by norm_cast
      have hdiv : x[m].toNat / 2 ^ k < 4294967296 := by
        have := Nat.div_le_self x[m].toNat (2 ^ k)
        omega
      rw [ek, e2, w32 (x := ((x[m].toNat : Nat) : Int)) (by omega) (by omega), fdiv_nat, xor32 hd hdiv, and1_32 (xor_lt32 hd hdiv), show (2 : Int) = ((2 : Nat) : Int) from rfl, tdiv_nat, w32 (x := ((dSteps x[m].toNat ((x.take m).foldl crcStep 4294967295) k / 2 : Nat) : Int)) (by omega) (by omega), show (3988292384 : Int) = ((3988292384 : Nat) : Int) from rfl, xor32 (by omega) (by decide), wi (by omega) (by omega)]
      refine ifB_of (fun hb => ?_) (fun hb => ?_)
      · have hb : (dSteps x[m].toNat ((x.take m).foldl crcStep 4294967295) k ^^^ x[m].toNat / 2 ^ k) % 2 = 1 := by
          have : (((dSteps x[m].toNat ((x.take m).foldl crcStep 4294967295) k ^^^ x[m].toNat / 2 ^ k) % 2 : Nat) : Int) = 1 := by simpa using hb
          omega
        refine ⟨⟨k + 1, by omega, rfl, ?_, u4⟩, by dsimp only [unc]; omega⟩
        simp only [dSteps, dStep]
        rw [if_pos hb]
      · have hb : ¬ (dSteps x[m].toNat ((x.take m).foldl crcStep 4294967295) k ^^^ x[m].toNat / 2 ^ k) % 2 = 1 := by
          intro he
          rw [he] at hb
          simp at hb
        refine ⟨⟨k + 1, by omega, rfl, ?_, u4⟩, by dsimp only [unc]; omega⟩
        simp only [dSteps, dStep]
        rw [if_neg hb]
    · have hk1 : k = 8 := by have := of_decide_eq_false hc; dsimp only at this; omega
      subst hk1
      dsimp only
      rw [dSteps_8, wi (by omega) (by omega)]
      refine ⟨⟨m + 1, by omega, rfl, ?_, u4⟩, by dsimp only [unc]; omega⟩
      rw [List.take_succ_eq_append_getElem hm1, List.foldl_append]
      rfl
  · have hm1 : m = x.length := by have := of_decide_eq_false hc; dsimp only at this; omega
    subst hm1
    rw [List.take_length] at hlt ⊢
    rw [show (4294967295 : Int) = ((4294967295 : Nat) : Int) from rfl, xor32 hlt (by decide)]
    exact hQ _ u3
end Go.Proofs.W
end
section
set_option maxRecDepth 100000
set_option linter.unusedVariables false
namespace Go.Proofs.W
open Go Go.Shal Go.Proofs Go.M
abbrev encC (c : CellV) : List Value := [.bool c.first, .bool c.last, .int .i64 (c.num : Int), encS c.data]
theorem may_spec {h : Heap} {c : CellV} {Q : Bool → PP} (hn : c.num < 9223372036854775808) (hQ : ∀ h', Ext h h' → Q (mayC c) h') : cell_may.C c.first c.last (c.num : Int) c.data Q h := by
  apply cell_may.ok
  unfold cell_may.F
  refine newP_loc fun h1 u1 z1 l1 => ?_
  have hq := hQ h1 u1
  refine ld_loc (s := .str) (x := c.data) l1 rfl ?_
  refine join_b (decide (¬ (c.num ≤ 65535 ∧ c.first = decide (c.num = 0)))) (fun h' => h' = h1) ?_ ?_
  · refine ld_loc (s := .int .i64) (x := (c.num : Int)) l1 rfl ?_
    rw [ifB_of_false (by simp; try omega)]
    refine ld_loc (s := .int .i64) (x := (c.num : Int)) l1 rfl ?_
    refine ifB_of (fun hb => ?_) (fun hb => ?_)
    · have := of_decide_eq_true hb
      exact ⟨by simp; try omega, rfl⟩
    · have hle := of_decide_eq_false hb
      refine ld_loc (s := .bool) (x := c.first) l1 rfl ?_
      refine ld_loc (s := .int .i64) (x := (c.num : Int)) l1 rfl ⟨?_, rfl⟩
      have e : ((c.num : Int) == (0 : Int)) = decide (c.num = 0) := by rw [Bool.eq_iff_iff]; simp
      rw [e, Bool.eq_iff_iff]
      have : c.num ≤ 65535 := by omega
      simp [this]
  · rintro h1 rfl
    unfold mayC at hq
    refine ifB_of (fun hb => ?_) (fun hb => ?_)
    · have hb := of_decide_eq_true hb
      have : (decide (c.num ≤ 65535) && (c.first == decide (c.num = 0))) = false := by
        rw [Bool.eq_false_iff]
        intro hh
        simp only [Bool.and_eq_true, decide_eq_true_eq, beq_iff_eq] at hh
        exact hb hh
      rw [this] at hq
      exact hq
    · have hb := of_decide_eq_false hb
      rw [Decidable.not_not] at hb
      have : (decide (c.num ≤ 65535) && (c.first == decide (c.num = 0))) = true := by
        simp only [Bool.and_eq_true, decide_eq_true_eq, beq_iff_eq]
        exact hb
      rw [this, Bool.true_and] at hq
      refine ifB_of (fun hb => ?_) (fun hb => ?_)
      · have : c.data.length = 24 := by have : (c.data.length : Int) = 24 := by simpa using hb
                                        omega
        rw [show decide (c.data.length = 24) = true by simpa using this] at hq
        exact hq
      · have : c.data.length ≠ 24 := by intro he; rw [he] at hb; simp at hb
        rw [show decide (c.data.length = 24) = false by simpa using this, Bool.false_or] at hq
        refine ifB_of (fun hb => ?_) (fun hb => ?_)
        · have : c.data.length < 24 := by have := of_decide_eq_true hb; omega
          rw [show decide (c.data.length < 24) = true by simpa using this, Bool.true_and] at hq
          refine ld_loc (s := .bool) (x := c.last) l1 rfl ?_
          refine ifB_of (fun hl => ?_) (fun hl => ?_)
          · rw [hl, Bool.true_and] at hq
            refine ifB_of (fun hb => ?_) (fun hb => ?_)
            · have : 0 < c.data.length := by have := of_decide_eq_true hb; omega
              rw [show decide (0 < c.data.length) = true by simpa using this] at hq
              exact hq
            · have : ¬ 0 < c.data.length := by have := of_decide_eq_false hb; omega
              rw [show decide (0 < c.data.length) = false by simpa using this, Bool.false_or] at hq
              exact ld_loc (s := .bool) (x := c.first) l1 rfl hq
          · rw [hl] at hq
            exact hq
        · have : ¬ c.data.length < 24 := by have := of_decide_eq_false hb; omega
          rw [show decide (c.data.length < 24) = false by simpa using this] at hq
          exact hq
theorem rmay_spec {h : Heap} {c : CellV} {Q : Bool → PP} (hn : c.num < 9223372036854775808) (hQ : ∀ h', Ext h h' → Q (mayC c) h') : ref03_May.C c.first c.last (c.num : Int) c.data Q h := by
  apply ref03_May.ok
  unfold ref03_May.F
  refine newP_loc fun h1 u1 z1 l1 => ?_
  have hq := hQ h1 u1
  have e : ((c.num : Int) == (0 : Int)) = decide (c.num = 0) := by rw [Bool.eq_iff_iff]; simp
  have e' : ((c.num : Int) != (0 : Int)) = !decide (c.num = 0) := by rw [bne, e]
  refine join_b (decide (¬ (c.num ≤ 65535 ∧ c.first = decide (c.num = 0)))) (fun h' => h' = h1) ?_ ?_
  · refine ld_loc (s := .int .i64) (x := (c.num : Int)) l1 rfl ?_
    rw [ifB_of_false (by simp; try omega)]
    refine ld_loc (s := .int .i64) (x := (c.num : Int)) l1 rfl ?_
    refine ifB_of (fun hb => ?_) (fun hb => ?_)
    · have := of_decide_eq_true hb
      exact ⟨by simp; try omega, rfl⟩
    · have hle : c.num ≤ 65535 := by have := of_decide_eq_false hb; omega
      refine ld_loc (s := .bool) (x := c.first) l1 rfl ?_
      refine ifB_of (fun hf => ?_) (fun hf => ?_)
      · refine ld_loc (s := .int .i64) (x := (c.num : Int)) l1 rfl ?_
        rw [e']
        refine ifB_of (fun hb => ?_) (fun hb => ?_)
        · exact ⟨by simp at hb; simp [hle, hf, hb], rfl⟩
        · refine ld_loc (s := .bool) (x := c.first) l1 rfl ?_
          rw [ifB_of_false (by rw [hf]; rfl)]
          exact ⟨by simp at hb; simp [hf, hb], rfl⟩
      · refine ld_loc (s := .bool) (x := c.first) l1 rfl ?_
        rw [ifB_of_true (by rw [hf]; rfl)]
        refine ld_loc (s := .int .i64) (x := (c.num : Int)) l1 rfl ⟨?_, rfl⟩
        rw [e]
        by_cases h0 : c.num = 0 <;> simp [hle, hf, h0]
  · rintro h1 rfl
    unfold mayC at hq
    refine ifB_of (fun hb => ?_) (fun hb => ?_)
    · have hb := of_decide_eq_true hb
      have : (decide (c.num ≤ 65535) && (c.first == decide (c.num = 0))) = false := by
        rw [Bool.eq_false_iff]
        intro hh
        simp only [Bool.and_eq_true, decide_eq_true_eq, beq_iff_eq] at hh
        exact hb hh
      rw [this] at hq
      exact hq
    · have hb := of_decide_eq_false hb
      rw [Decidable.not_not] at hb
      have : (decide (c.num ≤ 65535) && (c.first == decide (c.num = 0))) = true := by
        simp only [Bool.and_eq_true, decide_eq_true_eq, beq_iff_eq]
        exact hb
      rw [this, Bool.true_and] at hq
      refine join_b (decide (24 < c.data.length ∨ c.data.length < 24 ∧ c.last = false)) (fun h' => h' = h1) ?_ ?_
      · refine ld_loc (s := .str) (x := c.data) l1 rfl ?_
        refine ifB_of (fun hb => ?_) (fun hb => ?_)
        · have := of_decide_eq_true hb
          exact ⟨by simp; try omega, rfl⟩
        · have h24 := of_decide_eq_false hb
          refine ld_loc (s := .str) (x := c.data) l1 rfl ?_
          refine ifB_of (fun hb => ?_) (fun hb => ?_)
          · have hlt := of_decide_eq_true hb
            refine ld_loc (s := .bool) (x := c.last) l1 rfl ⟨?_, rfl⟩
            have : ¬ 24 < c.data.length := by omega
            have h2 : c.data.length < 24 := by omega
            cases c.last <;> simp [this, h2]
          · have := of_decide_eq_false hb
            exact ⟨by simp; try omega, rfl⟩
      · rintro h1 rfl
        refine ifB_of (fun hb => ?_) (fun hb => ?_)
        · have hb := of_decide_eq_true hb
          have e0 : (decide (c.data.length = 24) || (decide (c.data.length < 24) && c.last && (decide (0 < c.data.length) || c.first))) = false := by
            rcases hb with h | h
            · rw [show decide (c.data.length = 24) = false by simp; try omega, show decide (c.data.length < 24) = false by simp; try omega]
              rfl
            · rw [show decide (c.data.length = 24) = false by simp; try omega, h.2]
              simp
          rw [e0] at hq
          exact hq
        · have hb := of_decide_eq_false hb
          simp only [not_or, not_and, Bool.not_eq_false] at hb
          refine ld_loc (s := .str) (x := c.data) l1 rfl ?_
          by_cases h24 : c.data.length = 24
          · rw [ifB_of_true (by simp; try omega)]
            rw [show decide (c.data.length = 24) = true by simpa using h24] at hq
            exact hq
          · have hl := hb.2 (by omega)
            rw [show decide (c.data.length = 24) = false by simpa using h24, show decide (c.data.length < 24) = true by simp; try omega, hl] at hq
            refine ifB_of (fun hb => ?_) (fun hb => ?_)
            · have : 0 < c.data.length := by have := of_decide_eq_true hb; omega
              rw [show decide (0 < c.data.length) = true by simpa using this] at hq
              exact hq
            · have : ¬ 0 < c.data.length := by have := of_decide_eq_false hb; omega
              rw [show decide (0 < c.data.length) = false by simpa using this] at hq
              refine ld_loc (s := .bool) (x := c.first) l1 rfl ?_
              refine ifB_of (fun hf => ?_) (fun hf => ?_)
              · refine ld_loc (s := .bool) (x := c.last) l1 rfl ?_
                rw [hf] at hq
                rw [hl]
                exact hq
              · rw [hf] at hq
                exact hq
theorem make_spec {h : Heap} {c : CellV} {Q : Bytes → Int → PP} (ht : Tabs h) (hn : c.num < 9223372036854775808)
    (hQ : ∀ h', Ext h h' → if mayC c = true then Q (mkC c) 0 h' else Q [] 1 h') : cell_Make.C c.first c.last (c.num : Int) c.data Q h := by
  apply cell_Make.ok
  unfold cell_Make.F
  refine newP_loc fun h1 u1 z1 l1 => ?_
  refine lds_loc (l := [.bool, .bool, .int .i64, .str]) (c.first, c.last, (c.num : Int), c.data, ()) l1 ?_
  refine may_spec hn fun h2 u2 => ?_
  cases hm : mayC c with
  | false =>
    rw [ifB_of_true (by rfl)]
    have := hQ h2 (u1.trans u2)
    rw [if_neg (by rw [hm]; decide)] at this
    exact this
  | true =>
    have hq : ∀ h', Ext h h' → Q (mkC c) 0 h' := fun h' u => by have := hQ h' u; rw [if_pos hm] at this; exact this
    have hlen := mayC_len hm
    have hnum := mayC_num hm
    rw [ifB_of_false (by rfl)]
    refine newP_loc fun h3 u3 z3 l3 => ?_
    have z2 := u1.size
    have z2' := u2.size
    have lv := (l1.ext u2).ext u3
    have l3 : LocB h2.size 411 (List.replicate 32 0) h3 := l3
    have u13 : Ext h h3 := u1.trans (u2.trans u3)
    -- the mark
    refine idx_const (k := 0) rfl (by decide) ?_
    refine st_byte (c := 64) l3 (by decide) rfl fun h4 l4 o4 => ?_
    have ne : h.size ≠ h2.size := by omega
    have lv4 := lv.only o4 ne
    refine ⟨fun h' => LocB h2.size 411 ((List.replicate 32 0).set 0 (if c.first then 65 else 64)) h' ∧ Only h2.size h3 h', ?_, ?_⟩
    · refine ld_loc (s := .bool) (x := c.first) lv4 rfl ?_
      refine ifB_of (fun hf => ?_) (fun hf => ?_)
      · refine idx_const (k := 0) rfl (by decide) ?_
        refine ld_byte (c := 64) l4 (by decide) ?_
        refine idx_const (k := 0) rfl (by decide) ?_
        refine st_byte (c := 65) l4 (by decide) (by decide) fun h5 l5 o5 => ?_
        rw [hf]
        exact ⟨l5, o4.trans o5⟩
      · rw [hf]
        exact ⟨l4, o4⟩
    · rintro ⟨⟩ h5 ⟨l5, o5⟩
      dsimp only [unc] at l5 o5 ⊢
      have lv5 := lv.only o5 ne
      refine ⟨fun h' => LocB h2.size 411 ((List.replicate 32 0).set 0 (UInt8.ofNat (markC c))) h' ∧ Only h2.size h3 h', ?_, ?_⟩
      · refine ld_loc (s := .bool) (x := c.last) lv5 rfl ?_
        refine ifB_of (fun hf => ?_) (fun hf => ?_)
        · refine idx_const (k := 0) rfl (by decide) ?_
          refine ld_byte (c := if c.first then 65 else 64) l5 (by simp) ?_
          refine idx_const (k := 0) rfl (by decide) ?_
          refine st_byte (c := UInt8.ofNat (markC c)) l5 (by simp) (by unfold markC; rw [hf]; cases c.first <;> decide) fun h6 l6 o6 => ?_
          rw [List.set_set] at l6
          exact ⟨l6, o5.trans o6⟩
        · refine ⟨?_, o5⟩
          have : (UInt8.ofNat (markC c)) = if c.first then 65 else 64 := by unfold markC; rw [hf]; cases c.first <;> decide
          rw [this]
          exact l5
      · rintro ⟨⟩ h6 ⟨l6, o6⟩
        dsimp only [unc] at l6 o6 ⊢
        have lv6 := lv.only o6 ne
        refine draw_loc lv6 ?_
        refine ldG_loc (s := .str) (x := c.data) rfl ?_
        refine ldG_loc (s := .int .i64) (x := (c.num : Int)) rfl ?_
        refine ldG_loc (s := .int .i64) (x := (c.num : Int)) rfl ⟨by decide, ?_⟩
        refine idx_const (k := 1) rfl (by decide) ?_
        refine st_byte (c := UInt8.ofNat c.data.length) l6 (by simp) (w8n _) fun h7 l7 o7 => ⟨lv6.only o7 ne, ?_⟩
        refine idx_const (k := 2) rfl (by decide) ?_
        refine st_byte (c := UInt8.ofNat c.num) l7 (by simp) (w8n _) fun h8 l8 o8 => ⟨(lv6.only o7 ne).only o8 ne, ?_⟩
        refine idx_const (k := 3) rfl (by decide) ?_
        have e256 : (2 : Int) ^ (min (8 : Int).toNat (IntKind.bits .i64)) = ((256 : Nat) : Int) := by decide
        rw [e256, fdiv_nat]
        refine st_byte (c := UInt8.ofNat (c.num / 256)) l8 (by simp) (w8n _) fun h9 l9 o9 => ?_
        have lv9 := ((lv6.only o7 ne).only o8 ne).only o9 ne
        have o39 := ((o6.trans o7).trans o8).trans o9
        have el : ((((List.replicate 32 (0 : UInt8)).set 0 (UInt8.ofNat (markC c))).set 1 (UInt8.ofNat c.data.length)).set 2 (UInt8.ofNat c.num)).set 3 (UInt8.ofNat (c.num / 256)) = [UInt8.ofNat (markC c), UInt8.ofNat c.data.length, UInt8.ofNat c.num, UInt8.ofNat (c.num / 256)] ++ List.replicate 28 0 := rfl
        rw [el] at l9
        refine draw_loc lv9 ?_
        refine sliceSl_of (lo := 4) (hi := 32) rfl rfl rfl (by decide) (by decide) (by decide) ?_
        refine ldG_loc (s := .str) (x := c.data) rfl ?_
        refine copy_str l9 (by omega) (by simp) fun h10 l10 o10 => ?_
        have lv10 := lv9.only o10 ne
        have o310 := o39.trans o10
        have el2 : ([UInt8.ofNat (markC c), UInt8.ofNat c.data.length, UInt8.ofNat c.num, UInt8.ofNat (c.num / 256)] ++ List.replicate 28 (0 : UInt8)).take (4 * 1) ++ c.data ++ ([UInt8.ofNat (markC c), UInt8.ofNat c.data.length, UInt8.ofNat c.num, UInt8.ofNat (c.num / 256)] ++ List.replicate 28 (0 : UInt8)).drop (4 * 1 + c.data.length) = headC c ++ [0, 0, 0, 0] := by
          have e1 : ([UInt8.ofNat (markC c), UInt8.ofNat c.data.length, UInt8.ofNat c.num, UInt8.ofNat (c.num / 256)] ++ List.replicate 28 (0 : UInt8)).drop (4 * 1 + c.data.length) = List.replicate (28 - c.data.length) 0 := by
            rw [← List.drop_drop]
            show (List.replicate 28 (0 : UInt8)).drop c.data.length = _
            rw [List.drop_replicate]
          have e2 : List.replicate (28 - c.data.length) (0 : UInt8) = List.replicate (24 - c.data.length) 0 ++ [0, 0, 0, 0] := by
            rw [show 28 - c.data.length = (24 - c.data.length) + 4 from by omega, ← List.replicate_append_replicate]
            rfl
          rw [e1, e2]
          unfold headC
          rw [← List.append_assoc]
          rfl
        rw [el2] at l10
        have hl28 := headC_len hlen
        refine sliceSl_of (lo := 0) (hi := 28) rfl rfl rfl (by decide) (by decide) (by decide) ?_
        refine bytes_loc (t := headC c) l10 (by rw [Nat.zero_mul, List.drop_zero, ← hl28]; exact List.take_left) (by rw [hl28]) ?_
        refine newP_sees (k := 1) (enc := fun l => [encS l]) (xs := [headC c]) (fun _ => rfl) rfl rfl fun h11 u11 z11 s11 => ?_
        have u311 : Up h2.size h3 h11 := (o310.up (Nat.le_refl _)).trans (u11.up _)
        have t11 : Tabs h11 := (ht.ext u13).keep (by have := ht.size; omega) u311
        refine crc_spec t11 s11 (by omega) fun h12 u12 => ?_
        have l12 : LocB h2.size 411 (headC c ++ [0, 0, 0, 0]) h12 := (l10.ext u11).ext u12
        have u312 : Up h2.size h3 h12 := u311.trans (u12.up _)
        have hcl := crcB_lt (headC c)
        refine ⟨fun n i h' => ∃ k : Nat, k ≤ 4 ∧ i = ((28 + k : Nat) : Int) ∧ n = ((crcB (headC c) / 256 ^ k : Nat) : Int) ∧ LocB h2.size 411 (headC c ++ ((le4 (crcB (headC c))).take k ++ List.replicate (4 - k) 0)) h' ∧ Up h2.size h3 h', fun _ i _ => 32 - i.toNat, ⟨0, by omega, rfl, (show ((crcB (headC c) : Nat) : Int) = ((crcB (headC c) / 256 ^ 0 : Nat) : Int) by simp), l12, u312⟩, ?_⟩
        rintro ⟨n, i, _⟩ h13 ⟨k, hk, hi, hn', l13, u13'⟩
        dsimp only at hi hn' l13 u13'
        subst hi hn'
        have hl4 : (le4 (crcB (headC c))).length = 4 := rfl
        refine ifB_of (fun hb => ?_) (fun hb => ?_)
        · have hk1 : k < 4 := by have := of_decide_eq_true hb; dsimp only at this; omega
          dsimp only
          refine idx_const (k := 28 + k) rfl (by omega) ?_
          rw [Nat.mul_one]
          have hdiv : crcB (headC c) / 256 ^ k ≤ crcB (headC c) := Nat.div_le_self _ _
          refine st_byte (c := UInt8.ofNat (crcB (headC c) / 256 ^ k)) l13 (by simp [hl28, hl4]; omega) (w8n _) fun h14 l14 o14 => ⟨by decide, ?_⟩
          have e256 : (2 : Int) ^ (min (8 : Int).toNat (IntKind.bits .u32)) = ((256 : Nat) : Int) := by decide
          rw [e256, fdiv_nat, wi (by omega) (by omega)]
          refine ⟨⟨k + 1, by omega, (show ((28 + k : Nat) : Int) + 1 = ((28 + (k + 1) : Nat) : Int) by omega), (show ((crcB (headC c) / 256 ^ k / 256 : Nat) : Int) = ((crcB (headC c) / 256 ^ (k + 1) : Nat) : Int) by rw [Nat.div_div_eq_div_mul, ← Nat.pow_succ]), ?_, u13'.trans (o14.up (Nat.le_refl _))⟩, (show 32 - (((28 + k : Nat) : Int) + 1).toNat < 32 - (((28 + k : Nat) : Int)).toNat by omega)⟩
          have e3 : (headC c ++ ((le4 (crcB (headC c))).take k ++ List.replicate (4 - k) 0)).set (28 + k) (UInt8.ofNat (crcB (headC c) / 256 ^ k)) = headC c ++ ((le4 (crcB (headC c))).take (k + 1) ++ List.replicate (4 - (k + 1)) 0) := by
            rw [List.set_append_right _ _ (by omega)]
            congr 1
            rw [hl28, show 28 + k - 28 = k from by omega]
            have : k = 0 ∨ k = 1 ∨ k = 2 ∨ k = 3 := by omega
            rcases this with rfl | rfl | rfl | rfl <;> simp [le4]
          rw [e3] at l14
          exact l14
        · have hk1 : k = 4 := by have := of_decide_eq_false hb; dsimp only at this; omega
          subst hk1
          refine sliceSl_of (lo := 0) (hi := 32) rfl rfl rfl (by decide) (by decide) (by decide) ?_
          have e4 : headC c ++ ((le4 (crcB (headC c))).take 4 ++ List.replicate (4 - 4) 0) = mkC c := by
            unfold mkC
            rw [List.take_of_length_le (by rw [hl4]; omega)]
            simp
          rw [e4] at l13
          have hl32 := mkC_len hlen
          refine bytes_loc (t := mkC c) l13 (by rw [Nat.zero_mul, List.drop_zero, ← hl32]; exact List.take_length) (by rw [hl32]) ?_
          exact hq h13 ((u13.up h2.size).trans u13' |> fun u => ⟨u.size, fun b o hb hm => u.at_ b o hb (.inl (by have := lt_of_some hb; omega))⟩)
theorem rmake_spec {h : Heap} {c : CellV} {Q : Bytes → Int → PP} (hn : c.num < 9223372036854775808)
    (hQ : ∀ h', Ext h h' → if mayC c = true then Q (mkC c) 0 h' else Q [] 1 h') : ref03_Make.C c.first c.last (c.num : Int) c.data Q h := by
  apply ref03_Make.ok
  unfold ref03_Make.F
  refine newP_loc fun h1 u1 z1 l1 => ?_
  refine lds_loc (l := [.bool, .bool, .int .i64, .str]) (c.first, c.last, (c.num : Int), c.data, ()) l1 ?_
  refine rmay_spec hn fun h2 u2 => ?_
  cases hm : mayC c with
  | false =>
    rw [ifB_of_true (by rfl)]
    have := hQ h2 (u1.trans u2)
    rw [if_neg (by rw [hm]; decide)] at this
    exact this
  | true =>
    have hq : ∀ h', Ext h h' → Q (mkC c) 0 h' := fun h' u => by have := hQ h' u; rw [if_pos hm] at this; exact this
    have hlen := mayC_len hm
    have hnum := mayC_num hm
    have l2 := l1.ext u2
    rw [ifB_of_false (by rfl)]
    refine ⟨fun m h' => m = (if c.first then 65 else 64) ∧ h' = h2, ?_, ?_⟩
    · refine ld_loc (s := .bool) (x := c.first) l2 rfl ?_
      refine ifB_of (fun hf => ?_) (fun hf => ?_)
      · exact ⟨by rw [hf]; decide, rfl⟩
      · exact ⟨by rw [hf]; rfl, rfl⟩
    · rintro ⟨m, _⟩ h3 ⟨hm3, rfl⟩
      dsimp only [unc] at hm3 ⊢
      subst hm3
      refine ⟨fun m h' => m = (markC c : Int) ∧ h' = h3, ?_, ?_⟩
      · refine ld_loc (s := .bool) (x := c.last) l2 rfl ?_
        unfold markC
        refine ifB_of (fun hf => ?_) (fun hf => ?_)
        · exact ⟨by rw [hf]; cases c.first <;> decide, rfl⟩
        · exact ⟨by rw [hf]; cases c.first <;> decide, rfl⟩
      · rintro ⟨m, _⟩ h4 ⟨hm4, rfl⟩
        dsimp only [unc] at hm4 ⊢
        subst hm4
        refine ld_loc (s := .str) (x := c.data) l2 rfl ?_
        refine ld_loc (s := .int .i64) (x := (c.num : Int)) l2 rfl ⟨by decide, ?_⟩
        refine ld_loc (s := .int .i64) (x := (c.num : Int)) l2 rfl ⟨by decide, ?_⟩
        have hmark : markC c < 256 := by unfold markC; cases c.first <;> cases c.last <;> decide
        rw [show (256 : Int) = ((256 : Nat) : Int) from rfl, tmod_nat, tdiv_nat, w8n, w8n, wi (by omega) (by omega), w8n]
        have em : (markC c : Int) = ((UInt8.ofNat (markC c)).toNat : Int) := by rw [UInt8.toNat_ofNat']; omega
        rw [em]
        refine newP_sees (k := 1) (enc := encB) (xs := [UInt8.ofNat (markC c), UInt8.ofNat c.data.length, UInt8.ofNat (c.num % 256), UInt8.ofNat (c.num / 256)]) (fun _ => rfl) rfl rfl fun h5 u5 z5 s5 => ?_
        refine s5.bytes ?_
        refine ld_loc (s := .str) (x := c.data) (l2.ext u5) rfl ⟨by simp; omega, ?_⟩
        rw [u8_eq (a := c.num % 256) (b := c.num) (by omega)]
        refine ⟨fun t h' => ∃ k : Nat, k ≤ 24 - c.data.length ∧ t = [UInt8.ofNat (markC c), UInt8.ofNat c.data.length, UInt8.ofNat c.num, UInt8.ofNat (c.num / 256)] ++ c.data ++ List.replicate k 0 ∧ Ext h4 h', fun t _ => 28 - t.length, ⟨0, by omega, by simp, u5⟩, ?_⟩
        rintro ⟨t, _⟩ h6 ⟨k, hk, ht, u6⟩
        dsimp only at ht u6
        have htl : t.length = 4 + c.data.length + k := by rw [ht]; simp; omega
        refine ifB_of (fun hb => ?_) (fun hb => ?_)
        · have hlt : 4 + c.data.length + k < 28 := by have := of_decide_eq_true hb; dsimp only at this; omega
          refine ⟨by dsimp only; rw [htl]; simp; omega, ?_⟩
          refine ⟨⟨k + 1, by omega, ?_, u6⟩, ?_⟩
          · dsimp only
            rw [ht, List.append_assoc, List.replicate_succ']
          · show 28 - (t ++ [0]).length < 28 - t.length
            rw [List.length_append, htl]
            simp
            omega
        · have hk1 : k = 24 - c.data.length := by have := of_decide_eq_false hb; dsimp only at this; omega
          subst hk1
          have et : t = headC c := by rw [ht]; rfl
          dsimp only
          rw [et]
          have hl28 := headC_len hlen
          refine rcrc_spec (by omega) fun h7 u7 => ⟨by decide, by decide, by decide, ?_⟩
          have hcl := crcB_lt (headC c)
          rw [show (65536 : Int) = ((65536 : Nat) : Int) from rfl, show (16777216 : Int) = ((16777216 : Nat) : Int) from rfl, tdiv_nat, tdiv_nat, tdiv_nat, w32 (by omega) (by omega), w32 (by omega) (by omega), w32 (by omega) (by omega), w8n, w8n, w8n, w8n]
          refine newP_sees (k := 1) (enc := encB) (xs := le4 (crcB (headC c))) (fun _ => rfl) rfl rfl fun h8 u8 z8 s8 => ?_
          refine s8.bytes ⟨by simp [hl28, le4], ?_⟩
          exact hq h8 ((u1.trans u2).trans ((u6.trans u7).trans u8))
end Go.Proofs.W
end
section
set_option maxRecDepth 100000
set_option linter.unusedVariables false
namespace Go.Proofs.W
open Go Go.Shal Go.Proofs Go.M
theorem and1_8 {a : Nat} (ha : a < 256) : andI .u8 (a : Int) 1 = ((a % 2 : Nat) : Int) := by
  unfold andI
  rw [show IntKind.bits .u8 = 8 from rfl, show (1 : Int) = ((1 : Nat) : Int) from rfl, BitVec.ofInt_natCast, BitVec.ofInt_natCast, BitVec.toNat_and, BitVec.toNat_ofNat, BitVec.toNat_ofNat, Nat.mod_eq_of_lt (by omega), Nat.mod_eq_of_lt (by omega)]
  rw [show a &&& 1 = a % 2 from Nat.and_two_pow_sub_one_eq_mod a 1]
  rw [w8 (by omega) (by omega)]
theorem and2_8 : ∀ c : UInt8, (andI .u8 (c.toNat : Int) 2 != (0 : Int)) = decide (c.toNat / 2 % 2 = 1) := by
  have h : ∀ n : Nat, n < 256 → (andI .u8 (n : Int) 2 != (0 : Int)) = decide (n / 2 % 2 = 1) := by decide
  intro c
  exact h c.toNat (by have := c.toNat_lt; omega)
theorem orI_i64 {a b : Nat} (ha : a % 256 = 0) (hb : b < 256) (hlt : a < 65536) : orI .i64 (b : Int) (a : Int) = ((b + a : Nat) : Int) := by
  have : b ||| a = b + a := by
    have h1 : a = 2 ^ 8 * (a / 256) := by omega
    rw [h1, Nat.or_comm, Nat.add_comm]
    exact (Nat.two_pow_add_eq_or_of_lt (i := 8) (by omega) (a / 256)).symm
  unfold orI
  rw [show IntKind.bits .i64 = 64 from rfl]
  rw [BitVec.ofInt_natCast, BitVec.ofInt_natCast, BitVec.toNat_or, BitVec.toNat_ofNat, BitVec.toNat_ofNat, Nat.mod_eq_of_lt (by omega), Nat.mod_eq_of_lt (by omega), this, wi (by omega) (by omega)]
/-- What the two readers hand back. -/
def GotC (r : Option CellV) (Q : Bool → Bool → Int → Bytes → Bool → PP) (h' : Heap) : Prop :=
  match r with
  | some c => Q c.first c.last (c.num : Int) c.data true h'
  | none => Q false false 0 [] false h'
theorem at32 {s : Bytes} (hl : s.length = 32) {i : Nat} (hi : i < 32) : s[i]? = some (s.getD i 0) := by
  rw [List.getD_eq_getElem?_getD, List.getElem?_eq_getElem (by omega)]
  rfl
theorem cread_spec {h : Heap} {s : Bytes} {Q : Bool → Bool → Int → Bytes → Bool → PP} (ht : Tabs h) (hs : s.length < 4611686018427387904) (hQ : ∀ h', Ext h h' → GotC (readC s) Q h') : cell_Read.C s Q h := by
  apply cell_Read.ok
  unfold cell_Read.F
  refine newP_loc fun h1 u1 z1 l1 => ?_
  have ret : ∀ (h2 : Heap) (a b : Bool) (n : Int) (d : Bytes) (ok : Bool), Up h1.size h1 h2 → (∀ h', Ext h h' → Q a b n d ok h') →
      stsP ⟨h.size, 0, none⟩ [.bool, .bool, .int .i64, .str] (a, b, n, d, ()) 0 (lds [.bool, .bool, .int .i64, .str] ⟨h.size, 0, none⟩ fun (s2 : Bool) (s3 : Bool) (n4 : Int) (s5 : Bytes) => Q s2 s3 n4 s5 ok) h2 := by
    intro h2 a b n d ok u2 hq
    exact ret_loc (l1.ext u2.ext) rfl (by simp) fun h3 o3 => hq h3 (((u1.trans u2.ext).up h.size).trans (o3.up (Nat.le_refl _))).ext
  have no : readC s = none → ∀ h2, Up h1.size h1 h2 → stsP ⟨h.size, 0, none⟩ [.bool, .bool, .int .i64, .str] (false, false, (0 : Int), ([] : Bytes), ()) 0 (lds [.bool, .bool, .int .i64, .str] ⟨h.size, 0, none⟩ fun (s2 : Bool) (s3 : Bool) (n4 : Int) (s5 : Bytes) => Q s2 s3 n4 s5 false) h2 := by
    intro hn h2 u2
    refine ret h2 _ _ _ _ _ u2 fun h' u => ?_
    have := hQ h' u
    rw [hn] at this
    exact this
  refine join_b (decide (¬ (s.length = 32 ∧ (s.getD 1 0).toNat ≤ 24))) (fun h' => h' = h1) ?_ ?_
  · refine ifB_of (fun hb => ?_) (fun hb => ?_)
    · have : s.length ≠ 32 := by intro he; rw [he] at hb; simp at hb
      exact ⟨by simp [this], rfl⟩
    · have hl : s.length = 32 := by have : (s.length : Int) = 32 := by simpa using hb
                                    omega
      refine atS_of (n := 1) rfl (at32 hl (by omega)) ⟨?_, rfl⟩
      rw [decide_eq_decide]
      simp [hl]
      try omega
  · rintro h2 rfl
    refine ifB_of (fun hb => ?_) (fun hb => ?_)
    · have hb := of_decide_eq_true hb
      exact no (by unfold readC; rw [if_neg (fun hc => hb ⟨hc.1, hc.2.1⟩)]) _ (Up.refl _ _)
    · have hb := of_decide_eq_false hb
      rw [Decidable.not_not] at hb
      obtain ⟨hl, h24⟩ := hb
      refine ⟨fun a h' => ∃ b, a = ⟨b, 0, none⟩ ∧ Shal.Loc b 367 (encC (parC s)) h' ∧ Up h2.size h2 h', ?_, ?_⟩
      · refine draw_ext ?_
        refine atS_of (n := 0) rfl (at32 hl (by omega)) ?_
        refine atS_of (n := 0) rfl (at32 hl (by omega)) ?_
        refine atS_of (n := 2) rfl (at32 hl (by omega)) ?_
        refine atS_of (n := 3) rfl (at32 hl (by omega)) ⟨by decide, ?_⟩
        refine atS_of (n := 1) rfl (at32 hl (by omega)) ?_
        have b0 := (s.getD 0 0).toNat_lt
        have b1 := (s.getD 1 0).toNat_lt
        have b2 := (s.getD 2 0).toNat_lt
        have b3 := (s.getD 3 0).toNat_lt
        rw [wi (x := (((s.getD 1 0).toNat : Nat) : Int)) (by omega) (by omega), wi (x := 4 + (((s.getD 1 0).toNat : Nat) : Int)) (by omega) (by omega)]
        refine sliceStr_of (a := 4) (b := 4 + (s.getD 1 0).toNat) (t := (s.drop 4).take (s.getD 1 0).toNat) rfl (by omega) (by omega) (by omega) (by rw [List.drop_take]; congr 1; omega) ?_
        have e256 : (2 : Int) ^ (min (8 : Int).toNat (IntKind.bits .i64)) = ((256 : Nat) : Int) := by decide
        rw [e256, and1_8 (by omega), and2_8, wi (x := (((s.getD 2 0).toNat : Nat) : Int)) (by omega) (by omega), wi (x := (((s.getD 3 0).toNat : Nat) : Int)) (by omega) (by omega), wi (x := (((s.getD 3 0).toNat : Nat) : Int) * ((256 : Nat) : Int)) (by omega) (by omega)]
        rw [show (((s.getD 3 0).toNat : Nat) : Int) * ((256 : Nat) : Int) = (((s.getD 3 0).toNat * 256 : Nat) : Int) by omega, orI_i64 (by omega) (by omega) (by omega)]
        have e1 : (((((s.getD 0 0).toNat % 2 : Nat) : Int)) != (0 : Int)) = decide ((s.getD 0 0).toNat % 2 = 1) := by
          rw [Bool.eq_iff_iff]
          simp only [bne_iff_ne, decide_eq_true_eq]
          omega
        rw [e1]
        have en : (s.getD 2 0).toNat + (s.getD 3 0).toNat * 256 = (parC s).num := by
          show _ = (s.getD 2 0).toNat + 256 * (s.getD 3 0).toNat
          omega
        rw [en]
        refine ⟨with_ext (Ext.refl _) ?_, ?_⟩
        · refine newP_loc fun h3 u3 z3 l3 => with_ext u3 ?_
          refine sts_loc l3 rfl (by simp) fun h4 l4 o4 => ⟨_, rfl, l4, (u3.up _).trans (o4.up (Nat.le_refl _))⟩
        · refine newP_loc fun h3 u3 z3 l3 => with_ext u3 (with_ext u3 ?_)
          refine sts_loc l3 rfl (by simp) fun h4 l4 o4 => ⟨_, rfl, l4, (u3.up _).trans (o4.up (Nat.le_refl _))⟩
      · rintro ⟨a, _⟩ h3 ⟨b, ha, l3, u3⟩
        dsimp only [unc] at ha ⊢
        subst ha
        refine lds_loc (l := [.bool, .bool, .int .i64, .str]) ((parC s).first, (parC s).last, ((parC s).num : Int), (parC s).data, ()) l3 ?_
        have hnum : (parC s).num < 65536 := by
          show (s.getD 2 0).toNat + 256 * (s.getD 3 0).toNat < _
          have b2 := (s.getD 2 0).toNat_lt
          have b3 := (s.getD 3 0).toNat_lt
          omega
        refine make_spec ((ht.ext u1).ext u3.ext) (by omega) fun h4 u4 => ?_
        have u24 : Up h2.size h2 h4 := u3.trans (u4.up _)
        by_cases hm : mayC (parC s) = true
        · rw [if_pos hm]
          refine joinT_dup ?_
          rw [ifB_of_false (by rfl)]
          dsimp only
          refine ifB_of (fun hb => ?_) (fun hb => ?_)
          · have hne : mkC (parC s) ≠ s := by simpa using hb
            exact no (by unfold readC; rw [if_neg (fun hc => hne hc.2.2.2)]) _ u24
          · have heq : mkC (parC s) = s := by simpa using hb
            have hr : readC s = some (parC s) := by unfold readC; rw [if_pos ⟨hl, h24, hm, heq⟩]
            refine lds_loc (l := [.bool, .bool, .int .i64, .str]) ((parC s).first, (parC s).last, ((parC s).num : Int), (parC s).data, ()) (l3.ext u4) ?_
            refine ret h4 _ _ _ _ _ u24 fun h' u => ?_
            have := hQ h' u
            rw [hr] at this
            exact this
        · rw [if_neg hm]
          refine joinT_dup ?_
          rw [ifB_of_true (by rfl)]
          dsimp only
          rw [ifB_of_true rfl]
          exact no (by unfold readC; rw [if_neg (fun hc => hm hc.2.2.1)]) _ u24
theorem readC_mark {s : Bytes} {c : CellV} (h : readC s = some c) : 64 ≤ (s.getD 0 0).toNat ∧ (s.getD 0 0).toNat ≤ 67 := by
  obtain ⟨h1, h2⟩ := readC_some h
  rw [← h2]
  have e : (mkC c).getD 0 0 = UInt8.ofNat (markC c) := rfl
  rw [e, UInt8.toNat_ofNat']
  unfold markC
  cases c.first <;> cases c.last <;> decide
theorem rcread_spec {h : Heap} {s : Bytes} {Q : Bool → Bool → Int → Bytes → Bool → PP} (hs : s.length < 4611686018427387904) (hQ : ∀ h', Ext h h' → GotC (readC s) Q h') : ref03_Read.C s Q h := by
  apply ref03_Read.ok
  unfold ref03_Read.F
  refine newP_loc fun h1 u1 z1 l1 => ?_
  have ret : ∀ (h2 : Heap) (a b : Bool) (n : Int) (d : Bytes) (ok : Bool), Up h1.size h1 h2 → (∀ h', Ext h h' → Q a b n d ok h') →
      stsP ⟨h.size, 0, none⟩ [.bool, .bool, .int .i64, .str] (a, b, n, d, ()) 0 (lds [.bool, .bool, .int .i64, .str] ⟨h.size, 0, none⟩ fun (s2 : Bool) (s3 : Bool) (n4 : Int) (s5 : Bytes) => Q s2 s3 n4 s5 ok) h2 := by
    intro h2 a b n d ok u2 hq
    exact ret_loc (l1.ext u2.ext) rfl (by simp) fun h3 o3 => hq h3 (((u1.trans u2.ext).up h.size).trans (o3.up (Nat.le_refl _))).ext
  have no : readC s = none → ∀ h2, Up h1.size h1 h2 → stsP ⟨h.size, 0, none⟩ [.bool, .bool, .int .i64, .str] (false, false, (0 : Int), ([] : Bytes), ()) 0 (lds [.bool, .bool, .int .i64, .str] ⟨h.size, 0, none⟩ fun (s2 : Bool) (s3 : Bool) (n4 : Int) (s5 : Bytes) => Q s2 s3 n4 s5 false) h2 := by
    intro hn h2 u2
    refine ret h2 _ _ _ _ _ u2 fun h' u => ?_
    have := hQ h' u
    rw [hn] at this
    exact this
  refine join_b (decide (¬ (s.length = 32 ∧ 64 ≤ (s.getD 0 0).toNat ∧ (s.getD 0 0).toNat ≤ 67 ∧ (s.getD 1 0).toNat ≤ 24))) (fun h' => h' = h1) ?_ ?_
  · refine ifB_of (fun hb => ?_) (fun hb => ?_)
    · have : s.length ≠ 32 := by intro he; rw [he] at hb; simp at hb
      exact ⟨by simp [this], rfl⟩
    · have hl : s.length = 32 := by have : (s.length : Int) = 32 := by simpa using hb
                                    omega
      refine atS_of (n := 0) rfl (at32 hl (by omega)) ?_
      refine ifB_of (fun hb => ?_) (fun hb => ?_)
      · have := of_decide_eq_true hb
        exact ⟨(decide_eq_true (by rintro ⟨_, h, _⟩; omega)).symm, rfl⟩
      · have h64 := of_decide_eq_false hb
        refine atS_of (n := 0) rfl (at32 hl (by omega)) ?_
        refine ifB_of (fun hb => ?_) (fun hb => ?_)
        · have := of_decide_eq_true hb
          exact ⟨(decide_eq_true (by rintro ⟨_, _, h, _⟩; omega)).symm, rfl⟩
        · have h67 := of_decide_eq_false hb
          refine atS_of (n := 1) rfl (at32 hl (by omega)) ⟨?_, rfl⟩
          rw [decide_eq_decide]
          constructor
          · rintro h ⟨_, _, _, h4⟩; omega
          · intro h
            refine Decidable.byContradiction fun hh => h ⟨hl, by omega, by omega, by omega⟩
  · rintro h2 rfl
    refine ifB_of (fun hb => ?_) (fun hb => ?_)
    · have hb := of_decide_eq_true hb
      refine no ?_ _ (Up.refl _ _)
      cases hr : readC s with
      | none => rfl
      | some c =>
        exfalso
        have hmk := readC_mark hr
        unfold readC at hr
        split at hr
        · rename_i hc
          exact hb ⟨hc.1, hmk.1, hmk.2, hc.2.1⟩
        · cases hr
    · have hb := of_decide_eq_false hb
      rw [Decidable.not_not] at hb
      obtain ⟨hl, h64, h67, h24⟩ := hb
      refine ⟨fun a h' => ∃ b, a = ⟨b, 0, none⟩ ∧ Shal.Loc b 297 (encC (parC s)) h' ∧ Up h2.size h2 h', ?_, ?_⟩
      · refine draw_ext ?_
        refine atS_of (n := 0) rfl (at32 hl (by omega)) ⟨by decide, ?_⟩
        refine atS_of (n := 0) rfl (at32 hl (by omega)) ?_
        refine atS_of (n := 2) rfl (at32 hl (by omega)) ?_
        refine atS_of (n := 3) rfl (at32 hl (by omega)) ?_
        refine atS_of (n := 1) rfl (at32 hl (by omega)) ?_
        have b0 := (s.getD 0 0).toNat_lt
        have b1 := (s.getD 1 0).toNat_lt
        have b2 := (s.getD 2 0).toNat_lt
        have b3 := (s.getD 3 0).toNat_lt
        rw [wi (x := (((s.getD 1 0).toNat : Nat) : Int)) (by omega) (by omega), wi (x := 4 + (((s.getD 1 0).toNat : Nat) : Int)) (by omega) (by omega)]
        refine sliceStr_of (a := 4) (b := 4 + (s.getD 1 0).toNat) (t := (s.drop 4).take (s.getD 1 0).toNat) rfl (by omega) (by omega) (by omega) (by rw [List.drop_take]; congr 1; omega) ?_
        rw [wi (x := (((s.getD 2 0).toNat : Nat) : Int)) (by omega) (by omega), wi (x := (((s.getD 3 0).toNat : Nat) : Int)) (by omega) (by omega), wi (x := 256 * (((s.getD 3 0).toNat : Nat) : Int)) (by omega) (by omega), wi (by omega) (by omega), show (2 : Int) = ((2 : Nat) : Int) from rfl, tmod_nat]
        have e1 : (((((s.getD 0 0).toNat % 2 : Nat) : Int)) == (1 : Int)) = decide ((s.getD 0 0).toNat % 2 = 1) := by
          rw [Bool.eq_iff_iff]
          simp only [beq_iff_eq, decide_eq_true_eq]
          omega
        have e2 : decide ((((s.getD 0 0).toNat : Nat) : Int) ≥ (66 : Int)) = decide ((s.getD 0 0).toNat / 2 % 2 = 1) := by
          rw [decide_eq_decide]
          omega
        rw [e1, e2]
        have en : (((s.getD 2 0).toNat : Nat) : Int) + 256 * (((s.getD 3 0).toNat : Nat) : Int) = ((parC s).num : Int) := by
          show _ = (((s.getD 2 0).toNat + 256 * (s.getD 3 0).toNat : Nat) : Int)
          omega
        rw [en]
        refine ⟨with_ext (Ext.refl _) ?_, ?_⟩
        · refine newP_loc fun h3 u3 z3 l3 => with_ext u3 ?_
          refine sts_loc l3 rfl (by simp) fun h4 l4 o4 => ⟨_, rfl, l4, (u3.up _).trans (o4.up (Nat.le_refl _))⟩
        · refine newP_loc fun h3 u3 z3 l3 => with_ext u3 (with_ext u3 ?_)
          refine sts_loc l3 rfl (by simp) fun h4 l4 o4 => ⟨_, rfl, l4, (u3.up _).trans (o4.up (Nat.le_refl _))⟩
      · rintro ⟨a, _⟩ h3 ⟨b, ha, l3, u3⟩
        dsimp only [unc] at ha ⊢
        subst ha
        refine lds_loc (l := [.bool, .bool, .int .i64, .str]) ((parC s).first, (parC s).last, ((parC s).num : Int), (parC s).data, ()) l3 ?_
        have hnum : (parC s).num < 65536 := by
          show (s.getD 2 0).toNat + 256 * (s.getD 3 0).toNat < _
          have b2 := (s.getD 2 0).toNat_lt
          have b3 := (s.getD 3 0).toNat_lt
          omega
        refine rmake_spec (by omega) fun h4 u4 => ?_
        have u24 : Up h2.size h2 h4 := u3.trans (u4.up _)
        by_cases hm : mayC (parC s) = true
        · rw [if_pos hm]
          refine joinT_dup ?_
          rw [ifB_of_false (by rfl)]
          dsimp only
          refine ifB_of (fun hb => ?_) (fun hb => ?_)
          · have hne : mkC (parC s) ≠ s := by simpa using hb
            exact no (by unfold readC; rw [if_neg (fun hc => hne hc.2.2.2)]) _ u24
          · have heq : mkC (parC s) = s := by simpa using hb
            have hr : readC s = some (parC s) := by unfold readC; rw [if_pos ⟨hl, h24, hm, heq⟩]
            refine lds_loc (l := [.bool, .bool, .int .i64, .str]) ((parC s).first, (parC s).last, ((parC s).num : Int), (parC s).data, ()) (l3.ext u4) ?_
            refine ret h4 _ _ _ _ _ u24 fun h' u => ?_
            have := hQ h' u
            rw [hr] at this
            exact this
        · rw [if_neg hm]
          refine joinT_dup ?_
          rw [ifB_of_true (by rfl)]
          dsimp only
          rw [ifB_of_true rfl]
          exact no (by unfold readC; rw [if_neg (fun hc => hm hc.2.2.1)]) _ u24
end Go.Proofs.W
end
section
set_option maxRecDepth 100000
set_option linter.unusedVariables false
namespace Go.Proofs.W
open Go Go.Shal Go.Proofs Go.M
theorem fput_spec {B b : Nat} {l r : Bytes} {h : Heap} {Q : PP} (ht : Tabs h) (hB : B ≤ h.size) (h9 : 4 ≤ B) (hb : Bld B b l h) (hr : r.length ≤ 524288) (hl : l.length ≤ 1000000000)
    (hQ : ∀ h', Bld B b (l ++ frm 0 r) h' → Up B h h' → Q h') : frame_put.C (some ⟨b, 0, none⟩) r Q h := by
  apply frame_put.ok
  unfold frame_put.F
  refine ⟨fun go left n h' => ∃ (k : Nat) (acc : Bytes), n = (k : Int) ∧ Bld B b (l ++ acc) h' ∧ Up B h h' ∧ (go = true → acc ++ frm k left = frm 0 r ∧ 24 * k + left.length = r.length ∧ acc.length = 32 * k ∧ (k = 0 ∨ left ≠ [])) ∧ (go = false → acc = frm 0 r),
    fun go left _ _ => if go then left.length + 1 else 0, ⟨0, [], rfl, by simpa using hb, Up.refl _ _, fun _ => ⟨by simp, by simp, rfl, .inl rfl⟩, fun h => by cases h⟩, ?_⟩
  rintro ⟨go, left, n, _⟩ h1 ⟨k, acc, hn, b1, u1, hgo, hstop⟩
  dsimp only at hn b1 u1 hgo hstop
  subst hn
  refine ifB_of (fun hg => ?_) (fun hg => ?_)
  · have hg : go = true := hg
    subst hg
    obtain ⟨e1, e2, e3, e4⟩ := hgo rfl
    have hmin : (if (24 : Int) < (left.length : Int) then (24 : Int) else (left.length : Int)) = ((min 24 left.length : Nat) : Int) := by split <;> omega
    dsimp only
    rw [hmin]
    refine sliceStr_of (a := 0) (b := min 24 left.length) (t := left.take 24) rfl rfl (by omega) (by omega) (by rw [List.drop_zero, List.take_eq_take_iff]; omega) ?_
    have t1 : Tabs h1 := ht.keep h9 u1
    have ek : (((k : Nat) : Int) == (0 : Int)) = decide (k = 0) := by rw [Bool.eq_iff_iff]; simp
    have el : (!decide (((min 24 left.length : Nat) : Int) < (left.length : Int))) = decide (left.length ≤ 24) := by
      rw [Bool.eq_iff_iff]
      simp only [Bool.not_eq_true', decide_eq_false_iff_not, decide_eq_true_eq]
      omega
    have em : decide (((min 24 left.length : Nat) : Int) < (left.length : Int)) = decide (24 < left.length) := by
      rw [decide_eq_decide]
      omega
    rw [ek, el, em]
    refine make_spec (c := cellOf k left) t1 (by show k < _; omega) fun h2 u2 => ?_
    rw [if_pos (cellOf_may (by omega) e4)]
    have hml := mkC_len (cellOf_len k left)
    have hz := u1.size
    have hz2 := u2.size
    refine write_spec (B := B) (by omega) (b1.ext u2) (by rw [List.length_append, hml]; omega) fun _ _ h3 b3 u3 _ => ?_
    refine sliceStr_of (a := min 24 left.length) (b := left.length) (t := left.drop 24) rfl rfl (by omega) (Nat.le_refl _) (by
      rw [List.take_length]
      by_cases h24 : 24 ≤ left.length
      · rw [Nat.min_eq_left h24]
      · rw [Nat.min_eq_right (by omega), List.drop_length, List.drop_eq_nil_of_le (by omega)]) ?_
    rw [wi (by omega) (by omega)]
    refine ⟨⟨k + 1, acc ++ mkC (cellOf k left), rfl, by rw [← List.append_assoc]; exact b3, u1.trans ((u2.up _).trans u3), fun hg => ?_, fun hg => ?_⟩, ?_⟩
    · have h24 : 24 < left.length := of_decide_eq_true hg
      refine ⟨?_, by dsimp only; rw [List.length_drop]; omega, by rw [List.length_append, hml]; omega, .inr ?_⟩
      · dsimp only
        rw [← e1]
        conv => rhs; unfold frm
        rw [dif_pos h24, List.append_assoc]
      · intro hnil
        have := congrArg List.length hnil
        rw [List.length_drop] at this
        simp at this
        omega
    · have h24 : ¬ 24 < left.length := of_decide_eq_false hg
      rw [← e1]
      conv => rhs; unfold frm
      rw [dif_neg h24]
    · show (if decide (24 < left.length) = true then (left.drop 24).length + 1 else 0) < (if true = true then left.length + 1 else 0)
      rw [List.length_drop]
      by_cases h24 : 24 < left.length
      · simp [h24]
        omega
      · simp [h24]
  · have hg : go = false := hg
    subst hg
    rw [hstop rfl] at b1
    exact hQ h1 b1 u1
theorem fwrite_spec {h : Heap} {s : Sl} {r : Bytes} {Q : Bytes → Int → PP} (ht : Tabs h) (hs : Sees 1 (fun l => [encS l]) h s [r]) (hr : r.length ≤ 524288)
    (hQ : ∀ h', Ext h h' → Q (frm 0 r) 0 h') : frame_Write.C s Q h := by
  apply frame_Write.ok
  unfold frame_Write.F
  have hlen := hs.len
  have h9 := ht.size
  refine newP_bld fun h1 u1 z1 b1 => ?_
  refine ⟨fun _ _ i h' => ∃ k : Nat, k ≤ 1 ∧ i = (k : Int) ∧ Bld h.size h.size (if k = 0 then [] else frm 0 r) h' ∧ Up h.size h h', fun _ _ i _ => 1 - i.toNat, ⟨0, by omega, rfl, b1, u1.up _⟩, ?_⟩
  rintro ⟨_, _, i, _⟩ h2 ⟨k, hk, hi, b2, u2⟩
  dsimp only at hi b2 u2
  subst hi
  refine ifB_of (fun hc => ?_) (fun hc => ?_)
  · have hk0 : k = 0 := by have := of_decide_eq_true hc; dsimp only at this; simp at hlen; omega
    subst hk0
    dsimp only
    refine Sees.idx1 (enc := encS) (hs.ext u2.ext) rfl (x := r) rfl fun a ha => ?_
    refine ld_of (s := .str) ha ?_
    rw [ifB_of_false (by simp; omega)]
    refine fput_spec (B := h.size) (ht.ext u2.ext) u2.size h9 b2 hr (by simp) fun h3 b3 u3 => ?_
    refine ⟨⟨1, by omega, rfl, by simpa using b3, u2.trans u3⟩, ?_⟩
    show 1 - (IntKind.wrap .i64 (((0 : Nat) : Int) + 1)).toNat < 1 - (((0 : Nat) : Int)).toNat
    decide
  · have hk1 : k = 1 := by have := of_decide_eq_false hc; dsimp only at this; simp at hlen; omega
    subst hk1
    rw [if_neg (by decide)] at b2
    refine string_spec (B := h.size) u2.size b2 fun h3 u3 => hQ h3 (u2.trans u3).ext
theorem rframe_spec {h : Heap} {r : Bytes} {Q : Bytes → PP} (hr : r.length ≤ 524288) (hQ : ∀ h', Ext h h' → Q (frm 0 r) h') : ref04_Frame.C r Q h := by
  apply ref04_Frame.ok
  unfold ref04_Frame.F
  refine ⟨by decide, ?_⟩
  have hdiv : IntKind.wrap .i64 (Int.tdiv (IntKind.wrap .i64 ((r.length : Int) + (23 : Int))) (24 : Int)) = (((r.length + 23) / 24 : Nat) : Int) := by
    rw [wi (x := (r.length : Int) + 23) (by omega) (by omega), show (r.length : Int) + 23 = ((r.length + 23 : Nat) : Int) by omega, show (24 : Int) = ((24 : Nat) : Int) from rfl, tdiv_nat, wi (by omega) (by omega)]
  rw [hdiv]
  have hcell : nCells r.length ≤ 21847 ∧ 0 < nCells r.length ∧ 24 * (nCells r.length - 1) ≤ r.length ∧ r.length ≤ 24 * nCells r.length ∧ (r.length = 0 ∨ 24 * (nCells r.length - 1) < r.length) := by
    unfold nCells
    split <;> omega
  refine ⟨fun n h' => n = (nCells r.length : Int) ∧ h' = h, ?_, ?_⟩
  · unfold nCells
    refine ifB_of (fun hb => ?_) (fun hb => ?_)
    · have : (r.length + 23) / 24 = 0 := by have : (((r.length + 23) / 24 : Nat) : Int) = 0 := by simpa using hb
                                            omega
      exact ⟨by rw [if_pos (by omega)]; rfl, rfl⟩
    · have : (r.length + 23) / 24 ≠ 0 := by intro he; rw [he] at hb; simp at hb
      exact ⟨by rw [if_neg (by omega)], rfl⟩
  · rintro ⟨n, _⟩ h1 ⟨hn, rfl⟩
    dsimp only [unc] at hn ⊢
    subst hn
    refine ⟨fun t i h' => ∃ k : Nat, k ≤ nCells r.length ∧ i = (k : Int) ∧ t.length = 32 * k ∧ (if k < nCells r.length then t ++ frm k (r.drop (24 * k)) = frm 0 r else t = frm 0 r) ∧ Ext h1 h', fun _ i _ => nCells r.length - i.toNat, ⟨0, by omega, rfl, rfl, by rw [if_pos hcell.2.1]; simp, Ext.refl _⟩, ?_⟩
    rintro ⟨t, i, _⟩ h2 ⟨k, hk, hi, htl, ht, u2⟩
    dsimp only at hi htl ht u2
    subst hi
    refine ifB_of (fun hc => ?_) (fun hc => ?_)
    · have hk1 : k < nCells r.length := by have := of_decide_eq_true hc; dsimp only at this; omega
      rw [if_pos hk1] at ht
      dsimp only
      rw [wi (x := 24 * (k : Int)) (by omega) (by omega), wi (x := 24 * (k : Int) + 24) (by omega) (by omega)]
      refine ⟨fun n h' => n = ((min (24 * k + 24) r.length : Nat) : Int) ∧ h' = h2, ?_, ?_⟩
      · refine ifB_of (fun hb => ?_) (fun hb => ?_)
        · have := of_decide_eq_true hb
          exact ⟨(show (r.length : Int) = ((min (24 * k + 24) r.length : Nat) : Int) by omega), rfl⟩
        · have := of_decide_eq_false hb
          exact ⟨(show 24 * (k : Int) + 24 = ((min (24 * k + 24) r.length : Nat) : Int) by omega), rfl⟩
      · rintro ⟨n, _⟩ h3 ⟨hn, rfl⟩
        dsimp only [unc] at hn ⊢
        subst hn
        refine sliceStr_of (a := 24 * k) (b := min (24 * k + 24) r.length) (t := (r.drop (24 * k)).take 24) (by omega) rfl (by omega) (by omega) (by
          rw [List.drop_take]
          rw [List.take_eq_take_iff, List.length_drop]
          omega) ?_
        have ek : (((k : Nat) : Int) == (0 : Int)) = decide (k = 0) := by rw [Bool.eq_iff_iff]; simp
        have el : (((k : Nat) : Int) == IntKind.wrap .i64 ((nCells r.length : Int) - 1)) = decide ((r.drop (24 * k)).length ≤ 24) := by
          rw [wi (by omega) (by omega), Bool.eq_iff_iff, List.length_drop]
          simp only [beq_iff_eq, decide_eq_true_eq]
          omega
        rw [ek, el]
        refine rmake_spec (c := cellOf k (r.drop (24 * k))) (by show k < _; omega) fun h4 u4 => ?_
        rw [if_pos (cellOf_may (by omega) (by
          by_cases h0 : k = 0
          · exact .inl h0
          · right
            intro hnil
            have := congrArg List.length hnil
            rw [List.length_drop] at this
            simp at this
            omega))]
        have hml := mkC_len (cellOf_len k (r.drop (24 * k)))
        refine ⟨by rw [hml]; omega, ?_⟩
        rw [wi (by omega) (by omega)]
        refine ⟨⟨k + 1, by omega, rfl, by rw [List.length_append, hml]; omega, ?_, u2.trans u4⟩, by dsimp only [unc]; omega⟩
        by_cases h24 : 24 < r.length - 24 * k
        · rw [frm_gt (by rw [List.length_drop]; exact h24), List.drop_drop] at ht
          rw [if_pos (by omega)]
          dsimp only
          rw [List.append_assoc, show 24 * (k + 1) = 24 * k + 24 by omega]
          exact ht
        · rw [frm_le (by rw [List.length_drop]; exact h24)] at ht
          rw [if_neg (by omega)]
          exact ht
    · have hk1 : k = nCells r.length := by have := of_decide_eq_false hc; dsimp only at this; omega
      subst hk1
      rw [if_neg (by omega)] at ht
      dsimp only
      rw [ht]
      exact hQ h2 u2
end Go.Proofs.W
end
section
set_option maxRecDepth 100000
set_option linter.unusedVariables false
set_option linter.unusedSimpArgs false
namespace Go.Proofs.W
open Go Go.Shal Go.Proofs Go.M
theorem drop_take32 {s : Bytes} {k : Nat} (h : 32 * k + 32 ≤ s.length) : (s.take (32 * k + 32)).drop (32 * k) = (s.drop (32 * k)).take 32 := by
  rw [List.drop_take]
  congr 1
  omega
theorem rdF_lt {n : Nat} {acc s : Bytes} (h : ¬ 32 ≤ s.length) : rdF n acc s = none := by
  unfold rdF
  rw [dif_neg h]
theorem rdF_step {n : Nat} {acc s : Bytes} (h : 32 ≤ s.length) : rdF n acc s = match readC (s.take 32) with
    | none => none
    | some c => if c.num = n ∧ acc.length + c.data.length ≤ 524288 then (if c.last then some (acc ++ c.data, n + 1) else rdF (n + 1) (acc ++ c.data) (s.drop 32)) else none := by
  conv => lhs; unfold rdF
  rw [dif_pos h]
  cases readC (s.take 32) <;> rfl
/-- What the two readers of a frame hand back. -/
theorem fone_spec {h : Heap} {s : Bytes} {Q : Bytes → Int → PP} (ht : Tabs h) (hs : s.length ≤ 1000000000)
    (hQ : ∀ h', Ext h h' → match rdF 0 [] s with
      | some (r, m) => Q r ((32 * m : Nat) : Int) h'
      | none => Q [] 0 h') : frame_one.C s Q h := by
  apply frame_one.ok
  unfold frame_one.F
  have h9 := ht.size
  refine newP_bld fun h1 u1 z1 b1 => ?_
  have no : rdF 0 [] s = none → ∀ h', Up h.size h h' → Q [] 0 h' := fun hn h' u => by
    have := hQ h' u.ext
    rw [hn] at this
    exact this
  refine ⟨fun size _ n h' => ∃ (k : Nat) (acc : Bytes), size = ((32 * k : Nat) : Int) ∧ n = (k : Int) ∧ 32 * k ≤ s.length ∧ Bld h.size h.size acc h' ∧ Up h.size h h' ∧ acc.length ≤ 524288 + 24 ∧
      (acc.length ≤ 524288 → rdF 0 [] s = rdF k acc (s.drop (32 * k))) ∧ (524288 < acc.length → rdF 0 [] s = none), fun size _ _ _ => s.length - size.toNat, ⟨0, [], rfl, rfl, by omega, b1, u1.up _, by simp, fun _ => rfl, fun hh => by simp at hh⟩, ?_⟩
  rintro ⟨size, _, n, _⟩ h2 ⟨k, acc, hsz, hn, hks, b2, u2, hal, hok, hbad⟩
  dsimp only at hsz hn b2 u2
  subst hsz hn
  have hz2 := u2.size
  refine join_b (decide (32 * k + 32 ≤ s.length ∧ acc.length ≤ 524288)) (fun h' => h' = h2) ?_ ?_
  · dsimp only
    rw [wi (by omega) (by omega)]
    refine ifB_of (fun hb => ?_) (fun hb => ?_)
    · have := of_decide_eq_true hb
      refine blen_spec b2 ⟨?_, rfl⟩
      rw [decide_eq_decide]
      omega
    · have := of_decide_eq_false hb
      exact ⟨by symm; rw [decide_eq_false_iff_not]; omega, rfl⟩
  · rintro h2 rfl
    refine ifB_of (fun hb => ?_) (fun hb => ?_)
    · obtain ⟨h32, hal2⟩ := of_decide_eq_true hb
      dsimp only
      rw [wi (by omega) (by omega)]
      refine sliceStr_of (a := 32 * k) (b := 32 * k + 32) (t := (s.drop (32 * k)).take 32) rfl (by omega) (by omega) h32 (drop_take32 h32) ?_
      refine cread_spec (ht.ext u2.ext) (by rw [List.length_take]; omega) fun h3 u3 => ?_
      have hst := hok hal2
      rw [rdF_step (n := k) (by rw [List.length_drop]; omega)] at hst
      have rest : ∀ (f l : Bool) (num : Nat) (d : Bytes) (ok : Bool), (ok = false → rdF 0 [] s = none) → (ok = true → num ≠ k → rdF 0 [] s = none) →
          (ok = true → num = k → d.length ≤ 24 ∧ (524288 < (acc ++ d).length → rdF 0 [] s = none) ∧ ((acc ++ d).length ≤ 524288 → rdF 0 [] s = if l then some (acc ++ d, k + 1) else rdF (k + 1) (acc ++ d) (s.drop (32 * (k + 1))))) →
          (newP 367 [.bool false, .bool false, .int .i64 (0 : Int), .string (bs ([] : Bytes))] fun (a15 : Addr) =>
        stsP a15 [.bool, .bool, .int .i64, .str] (f, l, (num : Int), d, ()) 0 (
          joinT [.bool] (fun (M16 : Bool → PP) =>
            ifB (!ok) (
              M16 true) (
              ld (.int .i64) (a15.add 2) fun (n17 : Int) =>
              M16 (n17 != (k : Int))))
          (fun (b18 : Bool) =>
            ifB b18 (
              Q ([] : Bytes) (0 : Int)) (
              ld (.str) (a15.add 3) fun (s19 : Bytes) =>
              strings_Builder_WriteString.C (some ⟨h.size, 0, none⟩) s19 fun (n20 : Int) (v21 : Value) =>
              joinT [.bool] (fun (M22 : Bool → PP) =>
                ld (.bool) (a15.add 1) fun (b23 : Bool) =>
                ifB b23 (
                  strings_Builder_Len.C (some ⟨h.size, 0, none⟩) fun (n24 : Int) =>
                  M22 (decide (n24 ≤ (524288 : Int)))) (
                  M22 false))
              (fun (b25 : Bool) =>
                ifB b25 (
                  strings_Builder_String.C (some ⟨h.size, 0, none⟩) fun (s26 : Bytes) =>
                  Q s26 (((32 * k : Nat) : Int) + (32 : Int))) (fun h' => (∃ (k2 : Nat) (acc2 : Bytes), ((32 * k : Nat) : Int) + (32 : Int) = ((32 * k2 : Nat) : Int) ∧ IntKind.wrap .i64 ((k : Int) + 1) = (k2 : Int) ∧ 32 * k2 ≤ s.length ∧ Bld h.size h.size acc2 h' ∧ Up h.size h h' ∧ acc2.length ≤ 524288 + 24 ∧
      (acc2.length ≤ 524288 → rdF 0 [] s = rdF k2 acc2 (s.drop (32 * k2))) ∧ (524288 < acc2.length → rdF 0 [] s = none)) ∧ s.length - (((32 * k : Nat) : Int) + (32 : Int)).toNat < s.length - ((32 * k : Nat) : Int).toNat)))))) h3 := by
        intro f l num d ok hno hne hyes
        have hz3 := u3.size
        refine newP_loc fun h4 u4 z4 l4 => sts_loc l4 rfl (by simp) fun h5 l5 o5 => ?_
        have u35 : Ext h3 h5 := ((u4.up _).trans (o5.up (Nat.le_refl _))).ext
        have u25 : Ext h2 h5 := u3.trans u35
        have u05 : Up h.size h h5 := u2.trans (u25.up _)
        refine join_b (decide (¬ (ok = true ∧ num = k))) (fun h' => h' = h5) ?_ ?_
        · cases ok with
          | false => exact ⟨by simp, rfl⟩
          | true =>
            refine ld_loc (s := .int .i64) (x := (num : Int)) l5 rfl ⟨?_, rfl⟩
            rw [Bool.eq_iff_iff]
            simp only [bne_iff_ne, decide_eq_true_eq, true_and]
            omega
        · rintro h5 rfl
          refine ifB_of (fun hb => ?_) (fun hb => ?_)
          · have hb := of_decide_eq_true hb
            refine no ?_ _ u05
            cases hk : ok with
            | false => exact hno hk
            | true => exact hne hk (fun he => hb ⟨hk, he⟩)
          · have hb := of_decide_eq_false hb
            rw [Decidable.not_not] at hb
            obtain ⟨hd, h1, h2'⟩ := hyes hb.1 hb.2
            refine ld_loc (s := .str) (x := d) l5 rfl ?_
            have hz25 := u25.size
            refine write_spec (B := h.size) (by omega) (b2.ext u25) (by omega) fun _ _ h6 b6 u6 k6 => ?_
            have u06 := u05.trans u6
            refine join_b (l && decide ((acc ++ d).length ≤ 524288)) (fun h' => h' = h6) ?_ ?_
            · refine ld_loc (s := .bool) (x := l) (l5.keep k6 (.inr rfl)) rfl ?_
              · refine ifB_of (fun hl => ?_) (fun hl => ?_)
                · refine blen_spec b6 ⟨?_, rfl⟩
                  rw [hl, Bool.true_and, decide_eq_decide]
                  omega
                · exact ⟨by rw [hl]; rfl, rfl⟩
            · rintro h6 rfl
              refine ifB_of (fun hb => ?_) (fun hb => ?_)
              · rw [Bool.and_eq_true, decide_eq_true_eq] at hb
                refine string_spec (B := h.size) (by have := u06.size; omega) b6 fun h7 u7 => ?_
                have hq := hQ h7 (u06.trans u7).ext
                rw [h2' hb.2, if_pos hb.1] at hq
                rw [show ((32 * k : Nat) : Int) + 32 = ((32 * (k + 1) : Nat) : Int) by omega]
                exact hq
              · rw [wi (by omega) (by omega)]
                refine ⟨⟨k + 1, acc ++ d, by omega, rfl, by omega, b6, u06, by rw [List.length_append]; omega, fun hh => ?_, h1⟩, by omega⟩
                have : l = false := by
                  cases l with
                  | false => rfl
                  | true => simp [hh] at hb; simp at hh; omega
                rw [h2' hh, this]
                rfl
      cases hr : readC ((s.drop (32 * k)).take 32) with
      | none =>
        rw [hr] at hst
        exact rest false false 0 [] false (fun _ => hst) (fun hh => by cases hh) (fun hh => by cases hh)
      | some c =>
        rw [hr] at hst
        dsimp only at hst
        have hmay := mayC_len (readC_some hr).1
        refine rest c.first c.last c.num c.data true (fun hh => by cases hh) (fun _ hne => ?_) (fun _ he => ⟨hmay, fun hh => ?_, fun hh => ?_⟩)
        · rw [hst, if_neg (fun hc => hne hc.1)]
        · rw [List.length_append] at hh
          rw [hst, if_neg (fun hc => by omega)]
        · rw [List.length_append] at hh
          rw [hst, if_pos ⟨he, hh⟩, List.drop_drop, show 32 * k + 32 = 32 * (k + 1) by omega]
    · have hb := of_decide_eq_false hb
      refine no ?_ _ u2
      by_cases hal2 : acc.length ≤ 524288
      · rw [hok hal2, rdF_lt (by rw [List.length_drop]; omega)]
      · exact hbad (by omega)
end Go.Proofs.W
end
section
set_option maxRecDepth 100000
set_option linter.unusedVariables false
namespace Go.Proofs.W
open Go Go.Shal Go.Proofs Go.M
theorem fread_spec {h : Heap} {s : Bytes} {Q : Sl → Int → PP} (ht : Tabs h) (hs : s.length ≤ 1000000000)
    (hQ : ∀ t h', Own h.size 9 1 (fun l => [encS l]) h' t (readF s).1 → Ext h h' → Q t ((readF s).2 : Int) h') : frame_Read.C s Q h := by
  apply frame_Read.ok
  unfold frame_Read.F
  have h9 := ht.size
  refine ⟨fun t n h' => ∃ (at' : Nat) (done : List Bytes), n = (at' : Int) ∧ at' ≤ s.length ∧ 32 * done.length ≤ at' ∧ Own h.size 9 1 (fun l => [encS l]) h' t done ∧ Up h.size h h' ∧
      done ++ (readF (s.drop at')).1 = (readF s).1 ∧ at' + (readF (s.drop at')).2 = (readF s).2, fun _ n _ => s.length - n.toNat, ⟨0, [], rfl, by omega, by simp, Own.nil _ _ _ _ _, Up.refl _ _, by simp, by simp⟩, ?_⟩
  rintro ⟨t, n, _⟩ h1 ⟨at', done, hn, hat, hlen, o1, u1, e1, e2⟩
  dsimp only at hn o1 u1
  subst hn
  dsimp only [unc]
  refine sliceStr_of (a := at') (b := s.length) (t := s.drop at') rfl rfl hat (Nat.le_refl _) (by rw [List.take_length]) ?_
  refine fone_spec (ht.ext u1.ext) (by rw [List.length_drop]; omega) fun h2 u2 => ?_
  cases hr : rdF 0 [] (s.drop at') with
  | none =>
    dsimp only
    rw [readF_none hr] at e1 e2
    rw [ifB_of_true (by rfl)]
    have := hQ t h2
    rw [← e1, ← e2] at this
    simp only [List.append_nil, Nat.add_zero] at this
    exact this (o1.ext u2) (u1.ext.trans u2)
  | some p =>
    obtain ⟨r, m⟩ := p
    obtain ⟨m1, m2, m3, m4⟩ := rdF_some 0 [] _ r m rfl hr
    rw [List.length_drop] at m2
    rw [readF_some hr] at e1 e2
    dsimp only
    rw [ifB_of_false (by simp; omega)]
    have hz1 := u1.size
    have hz2 := u2.size
    refine app_one (enc := fun l => [encS l]) (x := r) (fun _ => rfl) (fun x v hv => by simp at hv; subst hv; rfl) rfl rfl (o1.ext u2) (by omega) (by omega) fun t' h3 o3 b3 f3 => ?_
    rw [wi (by omega) (by omega)]
    refine ⟨⟨at' + 32 * m, done ++ [r], (show (at' : Int) + ((32 * m : Nat) : Int) = ((at' + 32 * m : Nat) : Int) by omega), by omega, by simp; omega, o3, u1.trans ((u2.up _).trans (b3.up o1.low)), ?_, ?_⟩, ?_⟩
    · rw [← e1, List.drop_drop]
      simp
    · rw [← e2, List.drop_drop]
      omega
    · show s.length - ((at' : Int) + ((32 * m : Nat) : Int)).toNat < s.length - (at' : Int).toNat
      omega
theorem rfirst_spec {h : Heap} {s : Bytes} {Q : Bytes → Bool → PP} (hs : s.length ≤ 1000000000)
    (hQ : ∀ h', Ext h h' → match rdF 0 [] s with
      | some (r, m) => Q r true h'
      | none => Q [] false h') : ref04_first.C s Q h := by
  apply ref04_first.ok
  unfold ref04_first.F
  have no : rdF 0 [] s = none → ∀ h', Ext h h' → Q [] false h' := fun hn h' u => by
    have := hQ h' u
    rw [hn] at this
    exact this
  refine ⟨fun _ _ acc n h' => ∃ (k : Nat), n = (k : Int) ∧ 32 * k ≤ s.length ∧ acc.length ≤ 524288 ∧ Ext h h' ∧ rdF 0 [] s = rdF k acc (s.drop (32 * k)), fun _ _ _ n _ => s.length - 32 * n.toNat, ⟨0, rfl, by omega, by simp, Ext.refl _, rfl⟩, ?_⟩
  rintro ⟨_, _, acc, n, _⟩ h2 ⟨k, hn, hks, hal, u2, hst⟩
  dsimp only at hn hal u2 hst
  subst hn
  dsimp only [unc]
  rw [wi (x := 32 * (k : Int)) (by omega) (by omega), wi (x := 32 * (k : Int) + 32) (by omega) (by omega)]
  refine ifB_of (fun hb => ?_) (fun hb => ?_)
  · have h32 : 32 * k + 32 ≤ s.length := by have := of_decide_eq_true hb; omega
    refine sliceStr_of (a := 32 * k) (b := 32 * k + 32) (t := (s.drop (32 * k)).take 32) (by omega) (by omega) (by omega) h32 (drop_take32 h32) ?_
    refine rcread_spec (by rw [List.length_take]; omega) fun h3 u3 => ?_
    rw [rdF_step (n := k) (by rw [List.length_drop]; omega)] at hst
    cases hr : readC ((s.drop (32 * k)).take 32) with
    | none =>
      rw [hr] at hst
      dsimp only [GotC]
      refine newP_loc fun h4 u4 z4 l4 => sts_loc l4 rfl (by simp) fun h5 l5 o5 => ?_
      have u25 : Ext h2 h5 := u3.trans ((u4.up _).trans (o5.up (Nat.le_refl _))).ext
      refine joinT_dup ?_
      rw [ifB_of_true (by rfl)]
      dsimp only
      rw [ifB_of_true rfl]
      exact no hst _ (u2.trans u25)
    | some c =>
      rw [hr] at hst
      dsimp only at hst
      dsimp only [GotC]
      have hmay := mayC_len (readC_some hr).1
      refine newP_loc fun h4 u4 z4 l4 => sts_loc l4 rfl (by simp) fun h5 l5 o5 => ?_
      have u25 : Ext h2 h5 := u3.trans ((u4.up _).trans (o5.up (Nat.le_refl _))).ext
      refine join_b (decide (¬ (c.num = k ∧ acc.length + c.data.length ≤ 524288))) (fun h' => h' = h5) ?_ ?_
      · rw [ifB_of_false (by rfl)]
        refine ld_loc (s := .int .i64) (x := (c.num : Int)) l5 rfl ?_
        refine ifB_of (fun hb => ?_) (fun hb => ?_)
        · have : c.num ≠ k := by intro he; rw [he] at hb; simp at hb
          exact ⟨by simp [this], rfl⟩
        · have he : c.num = k := by have : (c.num : Int) = k := by simpa using hb
                                    omega
          refine ld_loc (s := .str) (x := c.data) l5 rfl ⟨?_, rfl⟩
          rw [wi (by omega) (by omega), decide_eq_decide]
          simp only [he, true_and]
          omega
      · rintro h5 rfl
        refine ifB_of (fun hb => ?_) (fun hb => ?_)
        · rw [if_neg (of_decide_eq_true hb)] at hst
          exact no hst _ (u2.trans u25)
        · have hb := of_decide_eq_false hb
          rw [Decidable.not_not] at hb
          rw [if_pos hb] at hst
          refine ld_loc (s := .str) (x := c.data) l5 rfl ⟨by omega, ?_⟩
          refine ld_loc (s := .bool) (x := c.last) l5 rfl ?_
          refine ifB_of (fun hl => ?_) (fun hl => ?_)
          · rw [if_pos hl] at hst
            have hq := hQ _ (u2.trans u25)
            rw [hst] at hq
            exact hq
          · rw [if_neg (by rw [hl]; decide)] at hst
            rw [wi (by omega) (by omega)]
            refine ⟨⟨k + 1, rfl, by omega, by rw [List.length_append]; omega, u2.trans u25, ?_⟩, (show s.length - 32 * ((k : Int) + 1).toNat < s.length - 32 * (k : Int).toNat by omega)⟩
            rw [hst, List.drop_drop, show 32 * k + 32 = 32 * (k + 1) by omega]
  · have h32 : ¬ 32 * k + 32 ≤ s.length := by have := of_decide_eq_false hb; omega
    refine no ?_ _ u2
    rw [hst, rdF_lt (by rw [List.length_drop]; omega)]
theorem rfread_spec {h : Heap} {s : Bytes} {Q : Sl → Int → PP} (hs : s.length ≤ 1000000000)
    (hQ : ∀ t h', Own h.size 9 1 (fun l => [encS l]) h' t (readF s).1 → Ext h h' → Q t ((readF s).2 : Int) h') : ref04_Read.C s Q h := by
  apply ref04_Read.ok
  unfold ref04_Read.F
  refine ⟨fun _ _ t n h' => ∃ (at' : Nat) (done : List Bytes), n = (at' : Int) ∧ at' ≤ s.length ∧ 32 * done.length ≤ at' ∧ Own h.size 9 1 (fun l => [encS l]) h' t done ∧ Up h.size h h' ∧
      done ++ (readF (s.drop at')).1 = (readF s).1 ∧ at' + (readF (s.drop at')).2 = (readF s).2, fun _ _ _ n _ => s.length - n.toNat, ⟨0, [], rfl, by omega, by simp, Own.nil _ _ _ _ _, Up.refl _ _, by simp, by simp⟩, ?_⟩
  rintro ⟨_, _, t, n, _⟩ h1 ⟨at', done, hn, hat, hlen, o1, u1, e1, e2⟩
  dsimp only at hn o1 u1
  subst hn
  dsimp only [unc]
  refine sliceStr_of (a := at') (b := s.length) (t := s.drop at') rfl rfl hat (Nat.le_refl _) (by rw [List.take_length]) ?_
  refine rfirst_spec (by rw [List.length_drop]; omega) fun h2 u2 => ?_
  cases hr : rdF 0 [] (s.drop at') with
  | none =>
    dsimp only
    rw [readF_none hr] at e1 e2
    rw [ifB_of_true (by rfl)]
    have := hQ t h2
    rw [← e1, ← e2] at this
    simp only [List.append_nil, Nat.add_zero] at this
    exact this (o1.ext u2) (u1.ext.trans u2)
  | some p =>
    obtain ⟨r, m⟩ := p
    obtain ⟨m1, m2, m3, m4⟩ := rdF_some 0 [] _ r m rfl hr
    rw [List.length_drop] at m2
    rw [readF_some hr] at e1 e2
    dsimp only
    rw [ifB_of_false (by rfl)]
    have hz1 := u1.size
    have hz2 := u2.size
    refine app_one (enc := fun l => [encS l]) (x := r) (fun _ => rfl) (fun x v hv => by simp at hv; subst hv; rfl) rfl rfl (o1.ext u2) (by omega) (by omega) fun t' h3 o3 b3 f3 => ?_
    refine rframe_spec m4 fun h4 u4 => ?_
    rw [frm_len, m3, wi (by omega) (by omega)]
    refine ⟨⟨at' + 32 * m, done ++ [r], (show (at' : Int) + ((32 * m : Nat) : Int) = ((at' + 32 * m : Nat) : Int) by omega), by omega, by simp; omega, o3.ext u4, (u1.trans ((u2.up _).trans (b3.up o1.low))).trans (u4.up _), ?_, ?_⟩, ?_⟩
    · rw [← e1, List.drop_drop]
      simp
    · rw [← e2, List.drop_drop]
      omega
    · show s.length - ((at' : Int) + ((32 * m : Nat) : Int)).toNat < s.length - (at' : Int).toNat
      omega
end Go.Proofs.W
end
section
set_option maxRecDepth 100000
set_option linter.unusedVariables false
set_option linter.unusedSimpArgs false
namespace Go.Proofs.W
open Go Go.Shal Go.Proofs Go.M
theorem fb10_spec {b n : Nat} {h : Heap} {Q : PP} {l : Bytes} {E : TypeId} (hl : LocB b E l h) (h24 : l.length = 24) (hn : n < 18446744073709551616)
    (hQ : ∀ h' l', LocB b E l' h' → l'.length = 24 → l'.take (Lib.nDigits n) = Lib.decDigits n → Only b h h' → Q h') : internal_strconv_formatBase10.C ⟨some ⟨b, 0, none⟩, Lib.nDigits n, 24⟩ (n : Int) Q h :=
  callT_of fun w hw => by
    subst hw
    have hd20 := nD_20 hn
    have hd1 := nD_pos n
    have hdl : ((l.take (Lib.nDigits n)).toArray).size = Lib.nDigits n := by simp; omega
    have hH : Sort.Holds (fun (b : UInt8) => Value.int .u8 (b.toNat : Int)) w b 0 (l.take (Lib.nDigits n)).toArray := by
      intro j hj
      rw [hdl] at hj
      refine ⟨?_, ?_⟩
      · show hcell w.heap ⟨b, 0 + j, none⟩ = _
        rw [hcell_cells hl]
        have hjl : j < l.length := by omega
        rw [getElem!_pos _ _ (by rw [hdl]; exact hj)]
        simp [byteCells, List.getElem?_eq_getElem hjl]
      · exact hfrozen_cells hl
    have hpow : n < 10 ^ (l.take (Lib.nDigits n)).toArray.size := by
      rw [hdl]
      have : ∀ m, m < 10 ^ Lib.nDigits m := by
        intro m
        induction m using Nat.strongRecOn with
        | ind m ih =>
          by_cases h10 : m < 10
          · rw [Lib.nDigits_small h10]; omega
          · rw [Lib.nDigits_big h10, Nat.pow_succ]
            have := ih (m / 10) (by omega)
            omega
      exact this n
    have key := Tryz.internal_strconv_formatBase10 b 0 24 n (l.take (Lib.nDigits n)).toArray w hH hpow hn (by rw [hdl]; omega)
    rw [hdl] at key
    refine key.mono fun e w' ⟨h1, k, v', dk, h2, h3⟩ => ?_
    subst h2
    refine ⟨⟨rfl, rfl, rfl⟩, (), by rw [h1]; rfl, ?_⟩
    have hsz : dk.size = Lib.nDigits n := h3.size
    refine hQ _ (dk.toList ++ l.drop (Lib.nDigits n)) ?_ (by simp [hsz]; omega) ?_ ⟨?_, fun m hm => ?_⟩
    · show (w.heap.modify b (Sort.onCells (Sort.putCells (fun (b : UInt8) => Value.int .u8 (b.toNat : Int)) 0 dk)))[b]? = _
      have hl' : w.heap[b]? = some (.cells (byteCells l).toArray E (0, 0)) := hl
      rw [Array.getElem?_modify, if_pos rfl, hl']
      simp only [Option.map_some, Sort.onCells, Option.some.injEq, Obj.cells.injEq, and_true]
      apply Array.ext'
      apply List.ext_getElem?
      intro i
      simp only [Sort.putCells, Array.toList_mapIdx, List.getElem?_mapIdx, Nat.zero_le, true_and, Nat.zero_add, Nat.sub_zero]
      by_cases hi : i < Lib.nDigits n
      · have hil : i < l.length := by omega
        have hid : i < dk.toList.length := by simp [hsz, hi]
        have e1 : dk[i]! = dk.toList[i] := by rw [getElem!_pos dk i (by omega)]; simp
        simp [byteCells, hsz, hi, hil, List.getElem?_append_left, e1]
      · have hid : dk.toList.length ≤ i := by simp [hsz]; omega
        simp only [byteCells, List.map_append, List.map_drop]
        rw [List.getElem?_append_right (by simpa using hid), List.getElem?_drop]
        have e2 : ∀ f : UInt8 → Value, Lib.nDigits n + (i - (List.map f dk.toList).length) = i := by intro f; rw [List.length_map, Array.length_toList, hsz]; omega
        have hi' : ¬ i < dk.size := by omega
        rw [e2]
        simp [hi']
        rfl
    · rw [List.take_left' (by simp [hsz])]
      apply List.ext_getElem (by simp [hsz, Lib.decDigits_length])
      intro j h1 h2
      have := Lib.row_is_numeral h3 j h2
      rw [this, getElem!_pos dk j (by simpa using h1)]
      simp
    · show (w.heap.modify _ _).size = _
      simp
    · show (w.heap.modify _ _)[m]? = _
      rw [Array.getElem?_modify, if_neg (Ne.symm hm)]
theorem fmt_spec {h : Heap} {n : Nat} {Q : Bytes → PP} (ht : Tabs h) (hn : n < 18446744073709551616) (hQ : ∀ h', Ext h h' → Q (Lib.decDigits n) h') : strconv_FormatUint.C (n : Int) (10 : Int) Q h := by
  apply strconv_FormatUint.ok
  unfold strconv_FormatUint.F
  apply internal_strconv_FormatUint.ok
  unfold internal_strconv_FormatUint.F
  rw [ifB_of_true (by rfl)]
  refine ifB_of (fun hc => ?_) (fun hc => ?_)
  · have hlt : n < 100 := by have := of_decide_eq_true hc; omega
    rw [wi (by omega) (by omega)]
    exact small_spec hlt (hQ h (Ext.refl _))
  · have hge : ¬ n < 100 := by have := of_decide_eq_false hc; omega
    refine newP_loc fun h1 u1 z1 l1 => ?_
    have l1 : LocB h.size 335 (List.replicate 24 0) h1 := l1
    have hd20 := nD_20 hn
    have hd1 := nD_pos n
    refine numDigits_spec (ht.ext u1) (by omega) hn ?_
    refine sliceSl_of (lo := 0) (hi := Lib.nDigits n) rfl rfl rfl (by omega) (by omega) (by omega) ?_
    rw [Nat.sub_zero, Nat.sub_zero, Nat.zero_mul, add_zero']
    refine fb10_spec l1 (by simp) hn fun h2 l' l2 hlen htake o2 => ?_
    refine sliceSl_of (lo := 0) (hi := Lib.nDigits n) rfl rfl rfl (by omega) (by omega) (by omega) ?_
    rw [Nat.sub_zero]
    refine bytes_loc (t := Lib.decDigits n) l2 (by rw [Nat.zero_mul, List.drop_zero]; exact htake) (Lib.decDigits_length n) ?_
    exact hQ h2 ((u1.up h.size).trans (o2.up (Nat.le_refl _))).ext
theorem repeatL_one (c : UInt8) : ∀ n, Lib.repeatL [c] n = List.replicate n c
  | 0 => rfl
  | n + 1 => by rw [Lib.repeatL, repeatL_one c n, List.replicate_succ]; rfl
theorem name_spec {h : Heap} {word : Bytes} {n : Nat} {Q : Bytes → PP} (ht : Tabs h) (hn : n < 18446744073709551616) (hw : word.length ≤ 1000) (hQ : ∀ h', Ext h h' → Q (nameB word n) h') : disk_Name.C word (n : Int) Q h := by
  apply disk_Name.ok
  unfold disk_Name.F
  refine fmt_spec ht hn fun h1 u1 => ⟨by simp; omega, ?_⟩
  have hd20 := nD_20 hn
  have hdl := Lib.decDigits_length n
  have e : (if (0 : Int) > IntKind.wrap .i64 (8 - ((Lib.decDigits n).length : Int)) then (0 : Int) else IntKind.wrap .i64 (8 - ((Lib.decDigits n).length : Int))) = ((8 - Lib.nDigits n : Nat) : Int) := by
    rw [hdl, wi (by omega) (by omega)]
    split <;> omega
  rw [e]
  refine repeat_spec (by omega) (by simp; omega) fun h2 u2 => ?_
  rw [repeatL_one]
  refine ⟨by simp; omega, ?_⟩
  refine ⟨by simp [hdl]; omega, ?_⟩
  have := hQ h2 (u1.trans u2)
  unfold nameB pad at this
  rw [← List.append_assoc] at this
  exact this
theorem number_spec {h : Heap} {word name : Bytes} {Q : Int → Bool → PP} (ht : Tabs h) (hw : word.length ≤ 1000) (hn : name.length ≤ 1000000)
    (hQ : ∀ h', Ext h h' → match numB word name with
      | some n => Q (n : Int) true h'
      | none => Q 0 false h') : disk_Number.C word name Q h := by
  apply disk_Number.ok
  unfold disk_Number.F
  refine ⟨by simp; omega, cutPrefix_spec ?_⟩
  have htl : (Lib.trimPrefix name (word ++ [46])).length ≤ name.length := by
    unfold Lib.trimPrefix
    split
    · rw [List.length_drop]; omega
    · omega
  refine parseUint_spec ht (by omega) (fun u h1 hp u1 => ?_) (fun n T v h1 hp hn64 u1 => ?_)
  · have hu : u < 18446744073709551616 := by
      have : ∀ (l : List UInt8) (a u : Nat), a ≤ 18446744073709551615 → Lib.parseUintM 18446744073709551615 a l = .ok u → u ≤ 18446744073709551615 := by
        intro l
        induction l with
        | nil => intro a u ha h; cases h; exact ha
        | cons c l ih =>
          intro a u ha h
          unfold Lib.parseUintM at h
          split at h
          · split at h
            · cases h
            · split at h
              · cases h
              · exact ih _ _ (by omega) h
          · cases h
      unfold Lib.parseUintB at hp
      split at hp
      · cases hp
      · have := this _ 0 u (by omega) hp
        omega
    refine join_b (decide (nameB word u ≠ name)) (fun h' => Ext h h') ?_ ?_
    · refine ⟨true, rfl, ?_⟩
      dsimp only
      rw [ifB_of_false (by rfl)]
      refine name_spec (ht.ext u1) hu hw fun h2 u2 => ⟨?_, u1.trans u2⟩
      by_cases he : nameB word u = name <;> simp [he]
    · intro h2 u2
      have hq := hQ h2 u2
      refine ifB_of (fun hb => ?_) (fun hb => ?_)
      · have hne := of_decide_eq_true hb
        rw [numB_none fun n hn64 he => ?_] at hq
        · exact hq
        · rw [← he, trim_name, parse_pad hn64] at hp
          cases hp
          exact hne he
      · have he := of_decide_eq_false hb
        rw [Decidable.not_not] at he
        rw [← he, numB_name hu] at hq
        exact hq
  · refine join_b true (fun h' => Ext h h') ?_ ?_
    · refine ⟨false, rfl, ?_⟩
      dsimp only
      rw [ifB_of_true (by rfl)]
      exact ⟨rfl, u1⟩
    · intro h2 u2
      have hq := hQ h2 u2
      rw [numB_none fun n hn64 he => ?_] at hq
      · exact hq
      · rw [← he, trim_name, parse_pad hn64] at hp
        exact hp n rfl
theorem rname_spec {h : Heap} {word : Bytes} {n : Nat} {Q : Bytes → PP} (hn : n < 18446744073709551616) (hw : word.length ≤ 1000) (hQ : ∀ h', Ext h h' → Q (nameB word n) h') : ref05_Name.C word (n : Int) Q h := by
  apply ref05_Name.ok
  unfold ref05_Name.F
  have hp20 := pad_len hn
  refine ⟨fun s m h' => ∃ k : Nat, m = (k : Int) ∧ k < 18446744073709551616 ∧ front k s = pad n ∧ Ext h h', fun s m _ => m.toNat + (8 - s.length), ⟨n, rfl, hn, front_nil n, Ext.refl _⟩, ?_⟩
  rintro ⟨s, m, _⟩ h1 ⟨k, hm, hk, he, u1⟩
  dsimp only at hm he u1
  subst hm
  have hsl : s.length ≤ 20 := by
    have := congrArg List.length he
    unfold front at this
    split at this
    · rw [List.length_append, List.length_replicate] at this; omega
    · rw [List.length_append, List.length_append, List.length_replicate] at this; omega
  refine join_b (decide (0 < k ∨ s.length < 8)) (fun h' => h' = h1) ?_ ?_
  · refine ifB_of (fun hb => ?_) (fun hb => ?_)
    · have := of_decide_eq_true hb
      exact ⟨by symm; rw [decide_eq_true_eq]; dsimp only at this; omega, rfl⟩
    · have := of_decide_eq_false hb
      refine ⟨?_, rfl⟩
      rw [decide_eq_decide]
      dsimp only at this ⊢
      omega
  · rintro h1 rfl
    refine ifB_of (fun hb => ?_) (fun hb => ?_)
    · have hb := of_decide_eq_true hb
      dsimp only
      refine ⟨by decide, ?_⟩
      rw [show (10 : Int) = ((10 : Nat) : Int) from rfl, tmod_nat, tdiv_nat, wu (by omega) (by omega), wu (by omega) (by omega), show (48 : Int) + ((k % 10 : Nat) : Int) = ((48 + k % 10 : Nat) : Int) by omega, w8n]
      refine newP_one (enc := encB) (x := UInt8.ofNat (48 + k % 10)) rfl rfl fun h2 _ u2 s2 => s2.bytes ⟨by simp; omega, by decide, ?_⟩
      refine ⟨⟨k / 10, rfl, by omega, (front_step hb).trans he, u1.trans u2⟩, ?_⟩
      show ((k / 10 : Nat) : Int).toNat + (8 - (UInt8.ofNat (48 + k % 10) :: s).length) < (k : Int).toNat + (8 - s.length)
      rw [List.length_cons]
      omega
    · have hb := of_decide_eq_false hb
      have h0 : k = 0 := by omega
      subst h0
      unfold front at he
      rw [if_pos rfl, show 8 - s.length = 0 by omega] at he
      have he : s = pad n := by simpa using he
      dsimp only
      refine ⟨by simp; omega, ?_⟩
      refine ⟨by rw [List.length_append]; simp; omega, ?_⟩
      rw [he]
      exact hQ h1 u1
theorem rnumber_spec {h : Heap} {word name : Bytes} {Q : Int → Bool → PP} (hw : word.length ≤ 1000) (hn : name.length ≤ 1000000)
    (hQ : ∀ h', Ext h h' → match numB word name with
      | some n => Q (n : Int) true h'
      | none => Q 0 false h') : ref05_Number.C word name Q h := by
  apply ref05_Number.ok
  unfold ref05_Number.F
  rw [wi (x := (word.length : Int) + 9) (by omega) (by omega), wi (x := (word.length : Int) + 21) (by omega) (by omega), wi (x := (word.length : Int) + 1) (by omega) (by omega)]
  have no : (∀ n, n < 18446744073709551616 → nameB word n ≠ name) → ∀ h', Ext h h' → Q 0 false h' := fun hno h' u => by
    have := hQ h' u
    rw [numB_none hno] at this
    exact this
  have hlenN : ∀ n, n < 18446744073709551616 → word.length + 9 ≤ (nameB word n).length ∧ (nameB word n).length ≤ word.length + 21 := by
    intro n hn
    have := pad_len hn
    unfold nameB
    simp only [List.length_append, List.length_singleton]
    omega
  refine join_b (decide (¬ (word.length + 9 ≤ name.length ∧ name.length ≤ word.length + 21))) (fun h' => h' = h) ?_ ?_
  · refine ifB_of (fun hb => ?_) (fun hb => ?_)
    · have := of_decide_eq_true hb
      exact ⟨by symm; rw [decide_eq_true_eq]; omega, rfl⟩
    · have := of_decide_eq_false hb
      refine ⟨?_, rfl⟩
      rw [decide_eq_decide]
      omega
  · rintro h0 rfl
    refine ifB_of (fun hb => ?_) (fun hb => ?_)
    · have hb := of_decide_eq_true hb
      refine no (fun n hn64 he => hb ?_) _ (Ext.refl _)
      rw [← he]
      exact hlenN n hn64
    · have hb := of_decide_eq_false hb
      rw [Decidable.not_not] at hb
      refine ⟨fun _ _ m i h' => ∃ k v : Nat, i = ((word.length + 1 + k : Nat) : Int) ∧ word.length + 1 + k ≤ name.length ∧ m = (v : Int) ∧ v < 18446744073709551616 ∧ v = val ((name.drop (word.length + 1)).take k) % 18446744073709551616 ∧ h' = h0, fun _ _ _ i _ => name.length - i.toNat, ⟨0, 0, (show (word.length : Int) + 1 = ((word.length + 1 + 0 : Nat) : Int) by omega), by omega, rfl, by omega, rfl, rfl⟩, ?_⟩
      rintro ⟨_, _, m, i, _⟩ h1 ⟨k, v, hi, hk, hm, hv64, hv, hh⟩
      dsimp only at hi hm hh
      subst hi hm hh
      have hdd : ∀ n, nameB word n = name → name.drop (word.length + 1) = pad n := by
        intro n he
        rw [← he]
        unfold nameB
        rw [show word.length + 1 = (word ++ [46]).length by simp, List.drop_left]
      refine ifB_of (fun hb => ?_) (fun hb => ?_)
      · have hlt : word.length + 1 + k < name.length := by have := of_decide_eq_true hb; dsimp only at this; omega
        have hget : (name.drop (word.length + 1))[k]? = some name[word.length + 1 + k] := by rw [List.getElem?_drop, List.getElem?_eq_getElem hlt]
        refine join_b (decide (¬ (48 ≤ name[word.length + 1 + k].toNat ∧ name[word.length + 1 + k].toNat ≤ 57))) (fun h' => h' = h1) ?_ ?_
        · dsimp only
          refine atS_of (n := word.length + 1 + k) rfl (List.getElem?_eq_getElem hlt) ?_
          refine ifB_of (fun hb => ?_) (fun hb => ?_)
          · have := of_decide_eq_true hb
            exact ⟨by symm; rw [decide_eq_true_eq]; omega, rfl⟩
          · have := of_decide_eq_false hb
            refine atS_of (n := word.length + 1 + k) rfl (List.getElem?_eq_getElem hlt) ⟨?_, rfl⟩
            rw [decide_eq_decide]
            omega
        · rintro h1 rfl
          refine ifB_of (fun hb => ?_) (fun hb => ?_)
          · have hb := of_decide_eq_true hb
            refine no (fun n hn64 he => hb ?_) _ (Ext.refl _)
            have := pad_digits n name[word.length + 1 + k] (by rw [← hdd n he]; exact List.mem_of_getElem? hget)
            exact this
          · have hb := of_decide_eq_false hb
            rw [Decidable.not_not] at hb
            dsimp only
            refine atS_of (n := word.length + 1 + k) rfl (List.getElem?_eq_getElem hlt) ?_
            have e1 : IntKind.wrap .u64 (IntKind.wrap .u64 (10 * (v : Int)) + IntKind.wrap .u64 (IntKind.wrap .u8 ((name[word.length + 1 + k].toNat : Int) - 48))) = ((valF v name[word.length + 1 + k] % 18446744073709551616 : Nat) : Int) := by
              unfold valF
              rw [w8 (by omega) (by omega), wuE, wuE, wuE]
              omega
            rw [e1, wi (by omega) (by omega)]
            refine ⟨⟨k + 1, valF v name[word.length + 1 + k] % 18446744073709551616, (show ((word.length + 1 + k : Nat) : Int) + 1 = ((word.length + 1 + (k + 1) : Nat) : Int) by omega), by omega, rfl, by omega, ?_, rfl⟩, (show name.length - (((word.length + 1 + k : Nat) : Int) + 1).toNat < name.length - (((word.length + 1 + k : Nat) : Int)).toNat by omega)⟩
            have hkl : k < (name.drop (word.length + 1)).length := by rw [List.length_drop]; omega
            have hgk : (name.drop (word.length + 1))[k] = name[word.length + 1 + k] := by rw [List.getElem_drop]
            rw [List.take_succ_eq_append_getElem hkl, hgk]
            unfold val at *
            rw [List.foldl_append, List.foldl_cons, List.foldl_nil, hv]
            unfold valF
            omega
      · have hk1 : word.length + 1 + k = name.length := by have := of_decide_eq_false hb; dsimp only at this; omega
        have htake : (name.drop (word.length + 1)).take k = name.drop (word.length + 1) := List.take_of_length_le (by rw [List.length_drop]; omega)
        rw [htake] at hv
        dsimp only
        refine rname_spec hv64 hw fun h2 u2 => ?_
        have hq := hQ h2 u2
        refine ifB_of (fun hb => ?_) (fun hb => ?_)
        · have hne : nameB word v ≠ name := by simpa using hb
          refine no (fun n hn64 he => hne ?_) _ u2
          rw [hdd n he, val_pad, Nat.mod_eq_of_lt hn64] at hv
          rw [hv]
          exact he
        · have he : nameB word v = name := by simpa using hb
          rw [← he, numB_name hv64] at hq
          exact hq
end Go.Proofs.W
end
