/- Layer 1: rows of numbers; the program's and the document's. Layer 1, the rest. Layer 1: the document's. -/
import Derived.Test.YtemfgkhholobgaaGreatDoorSA
section
set_option maxRecDepth 100000
set_option linter.unusedVariables false
namespace Go.Proofs.W
open Go Go.Shal Go.Proofs Go.M
theorem behind_spec {h : Heap} {n : Nat} {Q : Int → PP} (hn : n < 18446744073709551616) (hQ : Q (behind n : Int) h) : num_behind.C (n : Int) Q h := by
  apply num_behind.ok
  unfold num_behind.F
  refine ifB_of (fun hc => ?_) (fun hc => ?_)
  · have : n < 248 := by have := of_decide_eq_true hc; omega
    simpa [behind, this] using hQ
  · have hge : ¬ n < 248 := by have := of_decide_eq_false hc; omega
    refine len64_spec hn ⟨by decide, ?_⟩
    have := bitLen_le n
    rw [wi (x := ((Lib.bitLen n : Nat) : Int) + 7) (by omega) (by omega), show (((Lib.bitLen n : Nat) : Int) + 7) = ((Lib.bitLen n + 7 : Nat) : Int) from by omega, show (8 : Int) = ((8 : Nat) : Int) from rfl, tdiv_nat, bitLen_wid hn, wi (by omega) (by have := wid_le8 hn; omega)]
    simpa [behind, hge] using hQ
theorem put_spec {h : Heap} {B : Nat} {s : Sl} {l : Bytes} {n w : Nat} {Q : Sl → PP} (hn : n < 18446744073709551616) (hw : w ≤ 8) (hl : l.length ≤ 1000000) (ho : Own B 5 1 encB h s l) (hB : B ≤ h.size)
    (hQ : ∀ s' h', Own B 5 1 encB h' s' (l ++ beW n w) → Up B h h' → Q s' h') : num_put.C s (n : Int) (w : Int) Q h := by
  apply num_put.ok
  unfold num_put.F
  refine ⟨fun s' i h' => ∃ k : Nat, k ≤ w ∧ i = (k : Int) - 1 ∧ Own B 5 1 encB h' s' (l ++ (beW n w).take (w - k)) ∧ Up B h h', fun _ i _ => (i + 1).toNat, ⟨w, Nat.le_refl _, by rw [wi (by omega) (by omega)], by simpa using ho, Up.refl _ _⟩, ?_⟩
  rintro ⟨s1, i, _⟩ h1 ⟨k, hk, hi, ho1, hu⟩
  dsimp only at hi ho1 hu
  subst hi
  refine ifB_of (fun hc => ?_) (fun hc => ?_)
  · have hk1 : 1 ≤ k := by have := of_decide_eq_true hc; dsimp only at this; omega
    dsimp only
    rw [wi (x := 8 * ((k : Int) - 1)) (by omega) (by omega)]
    refine ⟨by omega, ?_⟩
    have e1 : min (8 * ((k : Int) - 1)).toNat (IntKind.bits .u64) = 8 * (k - 1) := by
      rw [show IntKind.bits .u64 = 64 from rfl]
      omega
    have e2 : Int.fdiv (n : Int) (2 ^ (8 * (k - 1))) = ((n / 256 ^ (k - 1) : Nat) : Int) := by
      rw [← fdiv_nat]
      congr 1
      rw [show (256 : Nat) = 2 ^ 8 from rfl, ← Nat.pow_mul]
      norm_cast
    rw [e1, e2]
    rw [w8n]
    refine app_one (enc := encB) (x := UInt8.ofNat (n / 256 ^ (k - 1))) (fun _ => rfl) (fun x v hv => by simp at hv; subst hv; rfl) rfl rfl ho1 (Nat.le_trans hB hu.size) (by simp; omega) fun s2 h2 o2 b2 _ => ?_
    rw [wi (x := (k : Int) - 1 - 1) (by omega) (by omega)]
    refine ⟨⟨k - 1, by omega, (by show (k : Int) - 1 - 1 = ((k - 1 : Nat) : Int) - 1; omega), ?_, hu.trans (b2.up ho1.low)⟩, ?_⟩
    · have : l ++ List.take (w - (k - 1)) (beW n w) = (l ++ List.take (w - k) (beW n w)) ++ [UInt8.ofNat (n / 256 ^ (k - 1))] := by
        rw [List.append_assoc]
        congr 1
        rw [show w - (k - 1) = (w - k) + 1 from by omega, List.take_succ_eq_append_getElem (by simp; omega)]
        congr 2
        have gen : ∀ (w j : Nat) (hj : j < (beW n w).length), (beW n w)[j] = UInt8.ofNat (n / 256 ^ (w - 1 - j)) := by
          intro w
          induction w with
          | zero => intro j hj; simp at hj
          | succ w ih =>
            intro j hj
            cases j with
            | zero => simp [beW]
            | succ j =>
              simp only [beW, List.getElem_cons_succ]
              rw [ih j (by simpa [beW] using hj)]
              congr 3
              omega
        rw [gen]
        congr 3
        omega
      rw [this]
      exact o2
    · show ((k : Int) - 1 - 1 + 1).toNat < ((k : Int) - 1 + 1).toNat
      omega
  · have hk0 : k = 0 := by have := of_decide_eq_false hc; dsimp only at this; omega
    subst hk0
    refine hQ _ _ ?_ hu
    simpa [List.take_of_length_le] using ho1
/-- Uint64s in a row. -/
abbrev encU (n : Nat) : Value := .int .u64 (n : Int)
theorem var_spec {h : Heap} {s : Sl} {ns : List Nat} {Q : Bytes → PP} (hs : Sees 1 (fun n => [encU n]) h s ns) (hn : ∀ n ∈ ns, n < 18446744073709551616) (hl : ns.length ≤ 10000)
    (hQ : ∀ h', Ext h h' → Q (ns.flatMap row) h') : num_Var.C s Q h := by
  apply num_Var.ok
  unfold num_Var.F
  have hlen := hs.len
  refine ⟨fun s' i h' => ∃ k : Nat, k ≤ ns.length ∧ i = (k : Int) ∧ Own h.size 5 1 encB h' s' ((ns.take k).flatMap row) ∧ Up h.size h h', fun _ i _ => ns.length - i.toNat, ⟨0, by omega, rfl, Own.nil _ _ _ _ _, Up.refl _ _⟩, ?_⟩
  rintro ⟨s1, i, _⟩ h1 ⟨k, hk, hi, ho1, hu⟩
  dsimp only at hi ho1 hu
  subst hi
  refine ifB_of (fun hc => ?_) (fun hc => ?_)
  · have hk1 : k < ns.length := by have := of_decide_eq_true hc; dsimp only at this; omega
    have hnk := hn _ (List.getElem_mem hk1)
    have hlk : ((ns.take k).flatMap row).length ≤ 9 * k := by
      have : ∀ l : List Nat, (∀ n ∈ l, n < 18446744073709551616) → (l.flatMap row).length ≤ 9 * l.length := by
        intro l
        induction l with
        | nil => intro _; simp
        | cons x l ih =>
          intro hx
          rw [List.flatMap_cons, List.length_append, List.length_cons]
          have h1 := row_length_le (hx x (by simp))
          have h2 := ih fun n hn => hx n (by simp [hn])
          omega
      have := this (ns.take k) fun n hn' => hn n (List.mem_of_mem_take hn')
      rw [List.length_take] at this
      omega
    refine joinT_dup ?_
    dsimp only
    refine Sees.idx1 (enc := encU) (hs.ext hu.ext) rfl (List.getElem?_eq_getElem hk1) fun a ha => ?_
    refine ld_of (s := .int .u64) ha ?_
    refine behind_spec hnk ?_
    have next : ∀ (s2 : Sl) (h2 : Heap), Own h.size 5 1 encB h2 s2 ((ns.take k).flatMap row ++ row ns[k]) → Up h.size h h2 →
        (∃ k' : Nat, k' ≤ ns.length ∧ IntKind.wrap .i64 ((k : Int) + 1) = (k' : Int) ∧ Own h.size 5 1 encB h2 s2 ((ns.take k').flatMap row) ∧ Up h.size h h2) ∧ ns.length - (IntKind.wrap .i64 ((k : Int) + 1)).toNat < ns.length - ((k : Int)).toNat := by
      intro s2 h2 o2 u2
      rw [wi (by omega) (by omega)]
      refine ⟨⟨k + 1, by omega, rfl, ?_, u2⟩, by omega⟩
      rw [List.take_succ_eq_append_getElem hk1, List.flatMap_append]
      simpa using o2
    refine ifB_of (fun hb => ?_) (fun hb => ?_)
    · have hb' : 0 < behind ns[k] := by have := of_decide_eq_true hb; omega
      have hge : ¬ ns[k] < 248 := by intro hlt; simp [behind, hlt] at hb'
      have hbw : behind ns[k] = wid ns[k] := by simp [behind, hge]
      have h8 := wid_le8 hnk
      rw [hbw, wi (by omega) (by omega), show (247 : Int) + ((wid ns[k] : Nat) : Int) = ((247 + wid ns[k] : Nat) : Int) from by omega, w8n]
      refine app_one (enc := encB) (x := UInt8.ofNat (247 + wid ns[k])) (fun _ => rfl) (fun x v hv => by simp at hv; subst hv; rfl) rfl rfl ho1 hu.size (by omega) fun s2 h2 o2 b2 _ => ?_
      refine put_spec (B := h.size) (s := s2) hnk h8 (by rw [List.length_append, List.length_singleton]; omega) o2 (Nat.le_trans hu.size b2.1) fun s3 h3 o3 u3 => ?_
      refine next s3 h3 ?_ ((hu.trans (b2.up ho1.low)).trans u3)
      have : row ns[k] = UInt8.ofNat (247 + wid ns[k]) :: be ns[k] := by simp [row, hge]
      rw [this]
      simpa [be] using o3
    · have hb' : behind ns[k] = 0 := by have := of_decide_eq_false hb; omega
      have hlt : ns[k] < 248 := by
        refine Decidable.byContradiction fun hge => ?_
        have := wid_ge1 (n := ns[k]) (by omega)
        simp [behind, hge] at hb'
        omega
      rw [w8n]
      refine app_one (enc := encB) (x := UInt8.ofNat ns[k]) (fun _ => rfl) (fun x v hv => by simp at hv; subst hv; rfl) rfl rfl ho1 hu.size (by omega) fun s2 h2 o2 b2 _ => ?_
      refine next s2 h2 ?_ (hu.trans (b2.up ho1.low))
      have : row ns[k] = [UInt8.ofNat ns[k]] := by simp [row, hlt]
      rw [this]
      exact o2
  · have hk1 : k = ns.length := by have := of_decide_eq_false hc; dsimp only at this; omega
    subst hk1
    rw [List.take_length] at ho1
    exact ho1.seesB.bytes (hQ _ hu.ext)
end Go.Proofs.W
end
section
set_option maxRecDepth 100000
set_option linter.unusedVariables false
namespace Go.Proofs.W
open Go Go.Shal Go.Proofs Go.M
/-- Texts in a row. -/
abbrev encS (l : Bytes) : Value := .string (bs l)
theorem text_spec {h : Heap} {s : Sl} {ss : List Bytes} {Q : Bytes → PP} (hs : Sees 1 (fun l => [encS l]) h s ss) (hl : ss.length ≤ 1000) (hn : (ss.map List.length).sum ≤ 10000000)
    (hQ : ∀ h', Ext h h' → Q (textB ss) h') : num_Text.C s Q h := by
  apply num_Text.ok
  unfold num_Text.F
  have hlen := hs.len
  have hmem : ∀ x ∈ ss, x.length ≤ 10000000 := fun x hx => Nat.le_trans (le_sum (List.mem_map_of_mem hx)) hn
  refine ⟨fun t i h' => ∃ k : Nat, k ≤ ss.length ∧ i = (k : Int) ∧ t = textB (ss.take k) ∧ Ext h h', fun _ i _ => ss.length - i.toNat, ⟨0, by omega, rfl, rfl, Ext.refl _⟩, ?_⟩
  rintro ⟨t, i, _⟩ h1 ⟨k, hk, hi, ht, hu⟩
  dsimp only at hi ht hu
  subst hi ht
  refine ifB_of (fun hc => ?_) (fun hc => ?_)
  · have hk1 : k < ss.length := by have := of_decide_eq_true hc; dsimp only at this; omega
    dsimp only
    refine Sees.idx1 (enc := encS) (hs.ext hu) rfl (List.getElem?_eq_getElem hk1) fun a ha => ?_
    refine ld_of (s := .str) ha ?_
    have hx := hmem _ (List.getElem_mem hk1)
    rw [wu (by omega) (by omega)]
    refine newP_one (enc := fun n => [encU n]) (x := ss[k].length) rfl rfl fun h2 _ u2 hs2 => ?_
    refine var_spec hs2 (by simp; omega) (by simp) fun h3 u3 => ?_
    have e1 : [ss[k].length].flatMap row = row ss[k].length := by simp
    rw [e1]
    have h9 := row_length_le (n := ss[k].length) (by omega)
    have ht9 := textB_length (ss.take k) fun x hx => by have := hmem x (List.mem_of_mem_take hx); omega
    have hsum : ((ss.take k).map List.length).sum ≤ 10000000 := by
      have : ∀ (l : List Bytes) (k : Nat), ((l.take k).map List.length).sum ≤ (l.map List.length).sum := by
        intro l
        induction l with
        | nil => intro k; simp
        | cons x l ih =>
          intro k
          cases k with
          | zero => simp
          | succ k => have := ih k; simp only [List.take_succ_cons, List.map_cons, List.sum_cons]; omega
      exact Nat.le_trans (this ss k) hn
    rw [List.length_take] at ht9
    refine ⟨by omega, ?_⟩
    refine ⟨by rw [List.length_append]; omega, ?_⟩
    rw [wi (by omega) (by omega)]
    refine ⟨⟨k + 1, by omega, rfl, ?_, (hu.trans u2).trans u3⟩, by dsimp only [unc]; omega⟩
    rw [List.take_succ_eq_append_getElem hk1]
    simp only [textB, List.flatMap_append, List.flatMap_cons, List.flatMap_nil, List.append_nil]
  · have hk1 : k = ss.length := by have := of_decide_eq_false hc; dsimp only at this; omega
    subst hk1
    rw [List.take_length]
    exact hQ _ hu
theorem orI64 {a b : Nat} (ha : a % 256 = 0) (hb : b < 256) (hlt : a < 18446744073709551616) : orI .u64 (a : Int) (b : Int) = ((a + b : Nat) : Int) := by
  have e : a + b < 18446744073709551616 := by omega
  have : a ||| b = a + b := by
    have h1 : a = 2 ^ 8 * (a / 256) := by omega
    rw [h1]
    exact (Nat.two_pow_add_eq_or_of_lt (i := 8) (by omega) (a / 256)).symm
  unfold orI
  rw [show IntKind.bits .u64 = 64 from rfl]
  rw [BitVec.ofInt_natCast, BitVec.ofInt_natCast, BitVec.toNat_or, BitVec.toNat_ofNat, BitVec.toNat_ofNat, Nat.mod_eq_of_lt (by omega), Nat.mod_eq_of_lt (by omega), this, wu (by omega) (by omega)]
theorem readBig_spec {h : Heap} {s : Bytes} {w : Nat} {Q : Int → Bool → PP} (h1 : 1 ≤ w) (h8 : w ≤ 8) (hl : s.length < 4611686018427387904)
    (hQ : ∀ h', Ext h h' → if w ≤ s.length then Q (big (s.take w) : Int) true h' else Q 0 false h') : num_ReadBig.C s (w : Int) Q h := by
  apply num_ReadBig.ok
  unfold num_ReadBig.F
  refine joinT_dup ?_
  rw [ifB_of_false (by simp; omega), ifB_of_false (by simp; omega)]
  refine ifB_of (fun hc => ?_) (fun hc => ?_)
  · have := of_decide_eq_true hc
    have := hQ h (Ext.refl _)
    rw [if_neg (by omega)] at this
    exact this
  · have hle := of_decide_eq_false hc
    refine ⟨⟨by omega, by omega, by omega⟩, ?_⟩
    simp only [Int.toNat_natCast, Int.toNat_zero, List.drop_zero]
    refine ofStr_sees fun p c h1 u1 hs1 => ?_
    have hwl : (s.take w).length = w := by simp; omega
    refine ⟨fun n i h' => ∃ k : Nat, k ≤ w ∧ i = (k : Int) ∧ n = (big ((s.take w).take k) : Int) ∧ Ext h1 h', fun _ i _ => w - i.toNat, ⟨0, by omega, rfl, rfl, Ext.refl _⟩, ?_⟩
    rintro ⟨n, i, _⟩ h2 ⟨k, hk, hi, hn, hu⟩
    dsimp only at hi hn hu
    subst hi hn
    refine ifB_of (fun hc => ?_) (fun hc => ?_)
    · have hk1 : k < (s.take w).length := by have := of_decide_eq_true hc; dsimp only at this; omega
      refine Sees.idx1 (enc := fun (b : UInt8) => Value.int .u8 (b.toNat : Int)) (hs1.ext hu) rfl (List.getElem?_eq_getElem hk1) fun a ha => ?_
      refine ld_of (s := .int .u8) ha ⟨by decide, ?_⟩
      have hlt := big_lt ((s.take w).take k)
      have hlk : ((s.take w).take k).length = k := by rw [List.length_take]; omega
      rw [hlk] at hlt
      have h7 : 256 ^ k ≤ 256 ^ 7 := Nat.pow_le_pow_right (by omega) (by omega)
      have e7 : (256 : Nat) ^ 7 = 72057594037927936 := by decide
      have hb := (s.take w)[k].toNat_lt
      have e8 : (2 : Int) ^ (min (8 : Int).toNat (IntKind.bits .u64)) = 256 := by decide
      dsimp only
      rw [e8, wu (x := ((big ((s.take w).take k) : Nat) : Int) * 256) (by omega) (by omega), wu (x := (((s.take w)[k].toNat : Nat) : Int)) (by omega) (by omega), wi (by omega) (by omega)]
      rw [show ((big ((s.take w).take k) : Nat) : Int) * 256 = ((256 * big ((s.take w).take k) : Nat) : Int) from by omega, orI64 (by omega) (by omega) (by omega), ← big_take_succ _ _ hk1]
      exact ⟨⟨k + 1, by omega, rfl, rfl, hu⟩, by dsimp only [unc]; omega⟩
    · have hk1 : k = w := by have := of_decide_eq_false hc; dsimp only at this; omega
      subst hk1
      have := hQ h2 (u1.trans hu)
      rw [if_pos (by omega)] at this
      rw [List.take_take, Nat.min_self]
      exact this
theorem readVar_spec {h : Heap} {s : Bytes} {Q : Int → Int → Bool → PP} (hl : s.length < 4611686018427387904)
    (hQ : ∀ h', Ext h h' → match readVar s with
      | some (n, k) => Q (n : Int) (k : Int) true h'
      | none => Q 0 0 false h') : num_ReadVar.C s Q h := by
  apply num_ReadVar.ok
  unfold num_ReadVar.F
  cases s with
  | nil => exact hQ h (Ext.refl _)
  | cons c r =>
    have hclt := c.toNat_lt
    rw [ifB_of_false (by rfl)]
    refine atS_of (n := 0) rfl rfl ?_
    have e0 : IntKind.wrap .i64 (IntKind.wrap .i64 (IntKind.wrap .i64 ((c.toNat : Nat) : Int) - 248) + 1) = ((c.toNat : Nat) : Int) - 247 := by
      rw [wi (x := ((c.toNat : Nat) : Int)) (by omega) (by omega), wi (x := ((c.toNat : Nat) : Int) - 248) (by omega) (by omega), wi (by omega) (by omega)]
      omega
    rw [e0]
    refine ifB_of (fun hc => ?_) (fun hc => ?_)
    · have hlt := of_decide_eq_true hc
      refine atS_of (n := 0) rfl rfl ?_
      have := hQ h (Ext.refl _)
      simp only [readVar, if_pos (show c.toNat < 248 by omega)] at this
      rw [wu (by omega) (by omega)]
      exact this
    · have hge := of_decide_eq_false hc
      have hk : ((c.toNat : Nat) : Int) - 247 = ((c.toNat - 247 : Nat) : Int) := by omega
      refine sliceStr_of (a := 1) (b := (c :: r).length) (t := r) rfl rfl (by simp) (Nat.le_refl _) (by rw [List.take_length]; rfl) ?_
      rw [hk]
      rw [List.length_cons] at hl
      refine readBig_spec (by omega) (by omega) (by omega) fun h1 u1 => ?_
      have hr := hQ
      simp only [readVar, if_neg (show ¬ c.toNat < 248 by omega)] at hr
      by_cases hlen : c.toNat - 247 ≤ r.length
      · rw [if_pos hlen]
        rw [if_neg (show ¬ r.length < c.toNat - 247 by omega)] at hr
        refine joinT_dup ?_
        rw [ifB_of_false (by rfl)]
        have hlt := big_lt (r.take (c.toNat - 247))
        rw [List.length_take, Nat.min_eq_left hlen] at hlt
        have h8 : 256 ^ (c.toNat - 247) ≤ 256 ^ 8 := Nat.pow_le_pow_right (by omega) (by omega)
        have e8 : (256 : Nat) ^ 8 = 18446744073709551616 := by decide
        refine behind_spec (by omega) ?_
        refine ifB_of (fun hb => ?_) (fun hb => ?_)
        · have hne : behind (big (r.take (c.toNat - 247))) ≠ c.toNat - 247 := by
            intro he
            rw [he] at hb
            simp at hb
          have := hr h1 u1
          rw [if_neg hne] at this
          exact this
        · have he : behind (big (r.take (c.toNat - 247))) = c.toNat - 247 := by
            have : ((behind (big (r.take (c.toNat - 247))) : Nat) : Int) = ((c.toNat - 247 : Nat) : Int) := by simpa using hb
            omega
          have := hr h1 u1
          rw [if_pos he] at this
          rw [wi (by omega) (by omega)]
          exact this
      · rw [if_neg hlen]
        have := hr h1 u1
        rw [if_pos (by omega)] at this
        exact joinT_dup this
theorem readText_spec {h : Heap} {s : Bytes} {most : Nat} {Q : Bytes → Int → Bool → PP} (hm : most < 4611686018427387904) (hl : s.length < 4611686018427387904)
    (hQ : ∀ h', Ext h h' → match readText s most with
      | some (t, k) => Q t (k : Int) true h'
      | none => Q [] 0 false h') : num_ReadText.C s (most : Int) Q h := by
  apply num_ReadText.ok
  unfold num_ReadText.F
  refine readVar_spec hl fun h1 u1 => ?_
  have hq := hQ h1 u1
  unfold readText at hq
  cases hv : readVar s with
  | none =>
    rw [hv] at hq
    exact joinT_dup hq
  | some nk =>
    obtain ⟨n, k⟩ := nk
    rw [hv] at hq
    obtain ⟨r1, r2, r3, r4⟩ := readVar_row hv
    dsimp only at hq ⊢
    refine joinT_dup ?_
    rw [ifB_of_false (by rfl), ifB_of_false (by simp)]
    have e1 : IntKind.wrap .i64 ((s.length : Int) - (k : Int)) = ((s.length - k : Nat) : Int) := by rw [wi (by omega) (by omega)]; omega
    rw [wu (x := (most : Int)) (by omega) (by omega), e1, wu (x := ((s.length - k : Nat) : Int)) (by omega) (by omega)]
    by_cases hok : n ≤ most ∧ n ≤ s.length - k
    · rw [if_pos hok] at hq
      rw [ifB_of_false (by simp; omega)]
      dsimp only
      rw [ifB_of_false (by simp; omega)]
      rw [wi (x := (n : Int)) (by omega) (by omega), wi (by omega) (by omega)]
      refine sliceStr_of (a := k) (b := k + n) (t := (s.drop k).take n) rfl (by omega) (by omega) (by omega) (by rw [List.drop_take]; congr 1; omega) ?_
      exact hq
    · rw [if_neg hok] at hq
      by_cases h2 : n ≤ most
      · rw [ifB_of_false (by simp; omega)]
        dsimp only
        rw [ifB_of_true (by simp; omega)]
        exact hq
      · rw [ifB_of_true (by simp; omega)]
        exact hq
end Go.Proofs.W
end
section
set_option maxRecDepth 100000
set_option linter.unusedVariables false
namespace Go.Proofs.W
open Go Go.Shal Go.Proofs Go.M
theorem bytesOf_spec {h : Heap} {n : Nat} {Q : Bytes → PP} (hn : n < 18446744073709551616) (hQ : ∀ h', Ext h h' → Q (be n) h') : ref01_bytesOf.C (n : Int) Q h := by
  apply ref01_bytesOf.ok
  unfold ref01_bytesOf.F
  refine ⟨fun s m h' => ∃ k : Nat, m = (k : Int) ∧ k ≤ n ∧ be k ++ s = be n ∧ Ext h h', fun _ m _ => m.toNat, ⟨n, rfl, Nat.le_refl _, by simp, Ext.refl _⟩, ?_⟩
  rintro ⟨s, m, _⟩ h1 ⟨k, hm, hk, he, hu⟩
  dsimp only at hm he hu
  subst hm
  have h8 := wid_le8 hn
  have hsl : s.length ≤ 8 := by
    have := congrArg List.length he
    simp [be] at this
    omega
  refine ifB_of (fun hc => ?_) (fun hc => ?_)
  · have hpos : 0 < k := by have := of_decide_eq_true hc; dsimp only at this; omega
    dsimp only
    refine ⟨by decide, ?_⟩
    rw [show (256 : Int) = ((256 : Nat) : Int) from rfl, tmod_nat, tdiv_nat, w8n]
    refine newP_one (enc := encB) (x := UInt8.ofNat (k % 256)) rfl rfl fun h2 _ u2 hs2 => ?_
    refine hs2.bytes ?_
    refine ⟨by simp; omega, by decide, ?_⟩
    rw [wu (by omega) (by omega)]
    refine ⟨⟨k / 256, rfl, by omega, ?_, hu.trans u2⟩, by dsimp only [unc]; omega⟩
    rw [be_succ hpos] at he
    rw [← he, u8_eq (a := k % 256) (b := k) (by omega)]
    simp
  · have h0 : k = 0 := by have := of_decide_eq_false hc; dsimp only at this; omega
    subst h0
    rw [be_zero] at he
    rw [show s = be n from by simpa using he]
    exact hQ _ hu
theorem row_spec {h : Heap} {n : Nat} {Q : Bytes → PP} (hn : n < 18446744073709551616) (hQ : ∀ h', Ext h h' → Q (row n) h') : ref01_Row.C (n : Int) Q h := by
  apply ref01_Row.ok
  unfold ref01_Row.F
  refine ifB_of (fun hc => ?_) (fun hc => ?_)
  · have hlt : n < 248 := by have := of_decide_eq_true hc; omega
    rw [w8n]
    refine newP_one (enc := encB) (x := UInt8.ofNat n) rfl rfl fun h2 _ u2 hs2 => hs2.bytes ?_
    have := hQ h2 u2
    unfold row at this
    rw [if_pos hlt] at this
    exact this
  · have hge : ¬ n < 248 := by have := of_decide_eq_false hc; omega
    have h8 := wid_le8 hn
    refine bytesOf_spec hn fun h1 u1 => ?_
    have hl : (be n).length = wid n := by simp [be]
    rw [hl, wi (by omega) (by omega), show (247 : Int) + ((wid n : Nat) : Int) = ((247 + wid n : Nat) : Int) from by omega, w8n]
    refine newP_one (enc := encB) (x := UInt8.ofNat (247 + wid n)) rfl rfl fun h2 _ u2 hs2 => hs2.bytes ⟨by simp; omega, ?_⟩
    have := hQ h2 (u1.trans u2)
    unfold row at this
    rw [if_neg hge] at this
    exact this
theorem rtext_spec {h : Heap} {s : Sl} {ss : List Bytes} {Q : Bytes → PP} (hs : Sees 1 (fun l => [encS l]) h s ss) (hl : ss.length ≤ 1000) (hn : (ss.map List.length).sum ≤ 10000000)
    (hQ : ∀ h', Ext h h' → Q (textB ss) h') : ref01_Text.C s Q h := by
  apply ref01_Text.ok
  unfold ref01_Text.F
  have hlen := hs.len
  have hmem : ∀ x ∈ ss, x.length ≤ 10000000 := fun x hx => Nat.le_trans (le_sum (List.mem_map_of_mem hx)) hn
  refine ⟨fun t i h' => ∃ k : Nat, k ≤ ss.length ∧ i = (k : Int) ∧ t = textB (ss.take k) ∧ Ext h h', fun _ i _ => ss.length - i.toNat, ⟨0, by omega, rfl, rfl, Ext.refl _⟩, ?_⟩
  rintro ⟨t, i, _⟩ h1 ⟨k, hk, hi, ht, hu⟩
  dsimp only at hi ht hu
  subst hi ht
  refine ifB_of (fun hc => ?_) (fun hc => ?_)
  · have hk1 : k < ss.length := by have := of_decide_eq_true hc; dsimp only at this; omega
    dsimp only
    refine draw_ext ?_
    refine Sees.idx1 (enc := encS) (hs.ext hu) rfl (List.getElem?_eq_getElem hk1) fun a ha => ?_
    refine ldG_ext (s := .str) ha ?_
    refine Sees.idx1 (enc := encS) (hs.ext hu) rfl (List.getElem?_eq_getElem hk1) fun a2 ha2 => ?_
    refine ldG_ext (s := .str) ha2 ?_
    have hx := hmem _ (List.getElem_mem hk1)
    rw [wu (by omega) (by omega)]
    refine row_spec (by omega) fun h3 u3 => with_ext u3 ?_
    have h9 := row_length_le (n := ss[k].length) (by omega)
    have ht9 := textB_length (ss.take k) fun x hx => by have := hmem x (List.mem_of_mem_take hx); omega
    have hsum : ((ss.take k).map List.length).sum ≤ 10000000 := by
      have : ∀ (l : List Bytes) (k : Nat), ((l.take k).map List.length).sum ≤ (l.map List.length).sum := by
        intro l
        induction l with
        | nil => intro k; simp
        | cons x l ih =>
          intro k
          cases k with
          | zero => simp
          | succ k => have := ih k; simp only [List.take_succ_cons, List.map_cons, List.sum_cons]; omega
      exact Nat.le_trans (this ss k) hn
    rw [List.length_take] at ht9
    refine ⟨by omega, ?_⟩
    refine ⟨by rw [List.length_append]; omega, ?_⟩
    rw [wi (by omega) (by omega)]
    refine ⟨⟨k + 1, by omega, rfl, ?_, hu.trans u3⟩, by dsimp only [unc]; omega⟩
    rw [List.take_succ_eq_append_getElem hk1]
    simp only [textB, List.flatMap_append, List.flatMap_cons, List.flatMap_nil, List.append_nil, List.append_assoc]
  · have hk1 : k = ss.length := by have := of_decide_eq_false hc; dsimp only at this; omega
    subst hk1
    rw [List.take_length]
    exact hQ _ hu
theorem rreadVar_spec {h : Heap} {s : Bytes} {Q : Int → Int → Bool → PP} (hl : s.length < 4611686018427387904)
    (hQ : ∀ h', Ext h h' → match readVar s with
      | some (n, k) => Q (n : Int) (k : Int) true h'
      | none => Q 0 0 false h') : ref01_ReadVar.C s Q h := by
  apply ref01_ReadVar.ok
  unfold ref01_ReadVar.F
  cases s with
  | nil => exact hQ h (Ext.refl _)
  | cons c r =>
    have hclt := c.toNat_lt
    rw [ifB_of_false (by simp; omega)]
    refine atS_of (n := 0) rfl rfl ?_
    have hr := hQ
    refine ifB_of (fun hc => ?_) (fun hc => ?_)
    · have hlt := of_decide_eq_true hc
      refine atS_of (n := 0) rfl rfl ?_
      simp only [readVar, if_pos (show c.toNat < 248 by omega)] at hr
      rw [wu (by omega) (by omega)]
      exact hr h (Ext.refl _)
    · have hge := of_decide_eq_false hc
      simp only [readVar, if_neg (show ¬ c.toNat < 248 by omega)] at hr
      refine atS_of (n := 0) rfl rfl ?_
      have e0 : IntKind.wrap .i64 (IntKind.wrap .i64 ((c.toNat : Nat) : Int) - 246) = ((c.toNat - 246 : Nat) : Int) := by
        rw [wi (x := ((c.toNat : Nat) : Int)) (by omega) (by omega), wi (by omega) (by omega)]
        omega
      rw [e0]
      rw [List.length_cons] at hl ⊢
      refine ifB_of (fun hc => ?_) (fun hc => ?_)
      · have hlt := of_decide_eq_true hc
        rw [if_pos (show r.length < c.toNat - 247 by omega)] at hr
        exact hr h (Ext.refl _)
      · have hle := of_decide_eq_false hc
        rw [if_neg (show ¬ r.length < c.toNat - 247 by omega)] at hr
        refine ⟨fun n i h' => ∃ k : Nat, k ≤ c.toNat - 247 ∧ i = ((1 + k : Nat) : Int) ∧ n = (big (r.take k) : Int) ∧ Ext h h', fun _ i _ => c.toNat - i.toNat, ⟨0, by omega, rfl, rfl, Ext.refl _⟩, ?_⟩
        rintro ⟨n, i, _⟩ h2 ⟨k, hk, hi, hn, hu⟩
        dsimp only at hi hn hu
        subst hi hn
        have hlt := big_lt (r.take k)
        have hlk : (r.take k).length = k := by rw [List.length_take]; omega
        rw [hlk] at hlt
        have h8 : 256 ^ k ≤ 256 ^ 8 := Nat.pow_le_pow_right (by omega) (by omega)
        have e8 : (256 : Nat) ^ 8 = 18446744073709551616 := by decide
        refine ifB_of (fun hc => ?_) (fun hc => ?_)
        · have hk1 : k < c.toNat - 247 := by have := of_decide_eq_true hc; dsimp only at this; omega
          have hkr : k < r.length := by omega
          have h7 : 256 ^ k ≤ 256 ^ 7 := Nat.pow_le_pow_right (by omega) (by omega)
          have e7 : (256 : Nat) ^ 7 = 72057594037927936 := by decide
          have hb := r[k].toNat_lt
          dsimp only
          refine atS_of (n := 1 + k) (b := r[k]) rfl (by rw [Nat.add_comm, List.getElem?_cons_succ]; exact List.getElem?_eq_getElem hkr) ?_
          rw [wu (x := 256 * ((big (r.take k) : Nat) : Int)) (by omega) (by omega), wu (x := ((r[k].toNat : Nat) : Int)) (by omega) (by omega), wu (by omega) (by omega), wi (by omega) (by omega)]
          refine ⟨⟨k + 1, by omega, (show ((1 + k : Nat) : Int) + 1 = ((1 + (k + 1) : Nat) : Int) by omega), (show 256 * ((big (r.take k) : Nat) : Int) + ((r[k].toNat : Nat) : Int) = ((big (r.take (k + 1)) : Nat) : Int) by rw [big_take_succ _ _ hkr]; omega), hu⟩, by dsimp only [unc]; omega⟩
        · have hk1 : k = c.toNat - 247 := by have := of_decide_eq_false hc; dsimp only at this; omega
          subst hk1
          refine draw_ext ?_
          refine sliceStr_of (a := 0) (b := c.toNat - 246) (t := c :: r.take (c.toNat - 247)) rfl rfl (by omega) (by rw [List.length_cons]; omega) (by rw [show c.toNat - 246 = (c.toNat - 247) + 1 from by omega, List.take_succ_cons]; rfl) ?_
          refine row_spec (by omega) fun h3 u3 => ?_
          have hiff := row_iff (c := c) (r := r) (by omega) (by omega)
          refine ifB_of (fun hb => ?_) (fun hb => ?_)
          · have hne : row (big (r.take (c.toNat - 247))) ≠ c :: r.take (c.toNat - 247) := by
              intro he
              rw [he] at hb
              simp at hb
            have := hr h3 (hu.trans u3)
            rw [if_neg (fun he => hne (hiff.2 he))] at this
            exact this
          · have he : row (big (r.take (c.toNat - 247))) = c :: r.take (c.toNat - 247) := by simpa using hb
            have := hr h3 (hu.trans u3)
            rw [if_pos (hiff.1 he)] at this
            rw [show c.toNat - 246 = 1 + (c.toNat - 247) from by omega]
            exact this
theorem rreadText_spec {h : Heap} {s : Bytes} {most : Nat} {Q : Bytes → Int → Bool → PP} (hm : most < 4611686018427387904) (hl : s.length < 4611686018427387904)
    (hQ : ∀ h', Ext h h' → match readText s most with
      | some (t, k) => Q t (k : Int) true h'
      | none => Q [] 0 false h') : ref01_ReadText.C s (most : Int) Q h := by
  apply ref01_ReadText.ok
  unfold ref01_ReadText.F
  refine rreadVar_spec hl fun h1 u1 => ?_
  have hq := hQ h1 u1
  unfold readText at hq
  cases hv : readVar s with
  | none =>
    rw [hv] at hq
    exact joinT_dup hq
  | some nk =>
    obtain ⟨n, k⟩ := nk
    rw [hv] at hq
    obtain ⟨r1, r2, r3, r4⟩ := readVar_row hv
    dsimp only at hq ⊢
    refine joinT_dup ?_
    rw [ifB_of_false (by rfl), wu (x := (s.length : Int)) (by omega) (by omega)]
    dsimp only
    refine ifB_of (fun hb => ?_) (fun hb => ?_)
    · have hgt := of_decide_eq_true hb
      rw [if_neg (by omega)] at hq
      exact hq
    · have hle := of_decide_eq_false hb
      rw [wi (x := (n : Int)) (by omega) (by omega), wi (by omega) (by omega)]
      refine joinT_dup ?_
      by_cases hok : n ≤ most ∧ n ≤ s.length - k
      · rw [if_pos hok] at hq
        rw [ifB_of_false (by simp; omega)]
        dsimp only
        rw [ifB_of_false (by simp; omega)]
        refine sliceStr_of (a := k) (b := k + n) (t := (s.drop k).take n) rfl (by omega) (by omega) (by omega) (by rw [List.drop_take]; congr 1; omega) ?_
        exact hq
      · rw [if_neg hok] at hq
        refine ifB_of (fun hb => ?_) (fun hb => ?_)
        · exact hq
        · have := of_decide_eq_false hb
          dsimp only
          rw [ifB_of_true (by simp; omega)]
          exact hq
end Go.Proofs.W
end
