/- Layer 6: batches: what may be, and the bytes. Layer 6: batches: there and back. Layer 6: reading. Layer 6: the document's reading. Layer 6: batches held against each other; how great they are. -/
import Derived.Test.YtemfgkhholobgaaGreatDoorSB
import Derived.Test.YtemfgkhholobgaaGreatDoorMB
import Derived.Test.YtemfgkhholobgaaGreatDoorCE
import Derived.Laws.StructEq
section
set_option maxRecDepth 100000
set_option linter.unusedVariables false
namespace Go.Proofs.W
open Go Go.Shal Go.Proofs Go.M
abbrev encO (o : OpV) : List Value := [encS o.key, encS o.val, .bool o.gone]
theorem encO_len (o : OpV) : (encO o).length = 3 := rfl
theorem encO_one (o : OpV) : ∀ v ∈ encO o, v.oneCell' = true := by
  intro v hv
  simp at hv
  rcases hv with rfl | rfl | rfl <;> rfl
/-- A function value that answers a question. -/
def Pred {α : Type} (v : Value) (enc : α → List Value) (p : α → Bool) : Prop :=
  ∀ (x : α) (h : Heap) (Q : Bool → PP), (∀ h', Ext h h' → Q (p x) h') → callV Tryz.prog v #[.agg (enc x).toArray] [.sc .bool] Q h
theorem long_spec {h : Heap} {o : OpV} {Q : Bool → PP} (hQ : ∀ h', Ext h h' → Q (longO o) h') : batch_long.C o.key o.val o.gone Q h := by
  apply batch_long.ok
  unfold batch_long.F
  refine newP_loc fun h1 u1 _ l1 => ?_
  refine ld_loc (s := .str) (x := o.key) l1 rfl ?_
  have hq := hQ h1 u1
  unfold longO at hq
  refine ifB_of (fun hc => ?_) (fun hc => ?_)
  · have := of_decide_eq_true hc
    rw [show decide (64 < o.key.length) = true by simp; omega] at hq
    exact hq
  · have := of_decide_eq_false hc
    rw [show decide (64 < o.key.length) = false by simp; omega] at hq
    refine ld_loc (s := .str) (x := o.val) l1 rfl ?_
    rw [show decide ((o.val.length : Int) > (512 : Int)) = decide (512 < o.val.length) by simp only [decide_eq_decide]; omega]
    exact hq
theorem bad_spec {h : Heap} {o : OpV} {Q : Bool → PP} (hQ : ∀ h', Ext h h' → Q (badO o) h') : batch_bad.C o.key o.val o.gone Q h := by
  apply batch_bad.ok
  unfold batch_bad.F
  refine newP_loc fun h1 u1 _ l1 => ?_
  refine ld_loc (s := .str) (x := o.key) l1 rfl ?_
  have hq := hQ h1 u1
  unfold badO at hq
  refine ifB_of (fun hc => ?_) (fun hc => ?_)
  · have : o.key = [] := by simpa using hc
    rw [this] at hq
    exact hq
  · have : o.key ≠ [] := by simpa using hc
    rw [show o.key.isEmpty = false by simpa using this] at hq
    refine ld_loc (s := .bool) (x := o.gone) l1 rfl ?_
    cases hg : o.gone with
    | true =>
      rw [hg] at hq
      refine ld_loc (s := .str) (x := o.val) l1 rfl ?_
      cases hv : o.val <;> (rw [hv] at hq; exact hq)
    | false => rw [hg] at hq; exact hq
theorem long_pred : Pred (.func (.func 299) #[] #[] : Value) encO longO := fun x h Q hQ =>
  ⟨299, #[], #[], Tryz.f299, rfl, Tryz.func299, by kernel_rfl, long_spec (o := x) hQ⟩
theorem bad_pred : Pred (.func (.func 301) #[] #[] : Value) encO badO := fun x h Q hQ =>
  ⟨301, #[], #[], Tryz.f301, rfl, Tryz.func301, by kernel_rfl, bad_spec (o := x) hQ⟩
theorem indexOp_spec {h : Heap} {s : Sl} {xs : List OpV} {v : Value} {p : OpV → Bool} {Q : Int → PP} (hs : Sees 3 encO h s xs) (hp : Pred v encO p) (hl : xs.length < 4611686018427387904)
    (hQ : ∀ (n : Int) h', Ext h h' → (0 ≤ n ↔ xs.any p = true) → Q n h') : slices_IndexFunc_api_Op_api_Op.C s v Q h := by
  apply slices_IndexFunc_api_Op_api_Op.ok
  unfold slices_IndexFunc_api_Op_api_Op.F
  have hlen := hs.len
  refine ⟨fun _ i h' => ∃ k : Nat, k ≤ xs.length ∧ i = (k : Int) ∧ (xs.take k).any p = false ∧ Ext h h', fun _ i _ => xs.length - i.toNat, ⟨0, by omega, rfl, by simp, Ext.refl _⟩, ?_⟩
  rintro ⟨m, i, _⟩ h1 ⟨k, hk, hi, ha, hu⟩
  dsimp only at hi ha hu
  subst hi
  refine ifB_of (fun hc => ?_) (fun hc => ?_)
  · have hk1 : k < xs.length := by have := of_decide_eq_true hc; dsimp only at this; omega
    dsimp only
    refine Sees.idx encO_len (hs.ext hu) rfl (List.getElem?_eq_getElem hk1) fun a hc => ?_
    refine lds_at (l := [.str, .str, .bool]) (xs[k].key, xs[k].val, xs[k].gone, ()) hc ?_
    refine hp xs[k] h1 _ fun h2 u2 => ?_
    refine ifB_of (fun hb => ?_) (fun hb => ?_)
    · exact hQ _ _ (hu.trans u2) ⟨fun _ => List.any_eq_true.2 ⟨_, List.getElem_mem hk1, hb⟩, fun _ => by omega⟩
    · rw [wi (by omega) (by omega)]
      refine ⟨⟨k + 1, by omega, rfl, ?_, hu.trans u2⟩, by dsimp only [unc]; omega⟩
      rw [List.take_succ_eq_append_getElem hk1, List.any_append, ha]
      simpa using hb
  · have hk1 : k = xs.length := by have := of_decide_eq_false hc; dsimp only at this; omega
    subst hk1
    rw [List.take_length] at ha
    refine hQ _ _ hu ⟨fun h => by omega, fun h => ?_⟩
    rw [ha] at h; cases h
theorem containsOp_spec {h : Heap} {s : Sl} {xs : List OpV} {v : Value} {p : OpV → Bool} {Q : Bool → PP} (hs : Sees 3 encO h s xs) (hp : Pred v encO p) (hl : xs.length < 4611686018427387904)
    (hQ : ∀ h', Ext h h' → Q (xs.any p) h') : slices_ContainsFunc_api_Op_api_Op.C s v Q h := by
  apply slices_ContainsFunc_api_Op_api_Op.ok
  unfold slices_ContainsFunc_api_Op_api_Op.F
  refine indexOp_spec hs hp hl fun n h' u hn => ?_
  have : decide (n ≥ (0 : Int)) = xs.any p := by
    cases hx : xs.any p with
    | true => simpa using hn.2 hx
    | false =>
      have : ¬ (0 ≤ n) := fun h => by have := hn.1 h; rw [hx] at this; cases this
      simpa using this
  rw [this]
  exact hQ _ u
theorem last_spec {h : Heap} {seq : Nat} {s : Sl} {Q : Int → PP} (hQ : ∀ h', Ext h h' → Q (((seq + max s.len 1 % 18446744073709551616) % 18446744073709551616 + 18446744073709551615) % 18446744073709551616 : Nat) h') : batch_Batch_Last.C (seq : Int) s Q h := by
  apply batch_Batch_Last.ok
  unfold batch_Batch_Last.F
  refine newP_loc fun h1 u1 _ l1 => ?_
  refine ld_loc (s := .int .u64) (x := (seq : Int)) l1 rfl ?_
  refine ld_loc (s := .slice) (x := s) l1 rfl ?_
  have hq := hQ h1 u1
  have e : IntKind.wrap .u64 (IntKind.wrap .u64 ((seq : Int) + IntKind.wrap .u64 (if (1 : Int) > (s.len : Int) then (1 : Int) else (s.len : Int))) - 1) = (((seq + max s.len 1 % 18446744073709551616) % 18446744073709551616 + 18446744073709551615) % 18446744073709551616 : Nat) := by
    rw [wuE, wuE, wuE]
    split <;> omega
  rw [e]
  exact hq
theorem check_spec {h : Heap} {seq : Nat} {s : Sl} {ops : List OpV} {Q : Int → PP} (hseq : seq < 18446744073709551616) (hs : Sees 3 encO h s ops) (hl : ops.length < 4611686018427387904)
    (hQ : ∀ h', Ext h h' → Q (checkB seq ops : Int) h') : batch_Check.C (seq : Int) s Q h := by
  apply batch_Check.ok
  unfold batch_Check.F
  have hlen := hs.len
  refine newP_loc fun h1 u1 _ l1 => ?_
  refine ld_loc (s := .slice) (x := s) l1 rfl ?_
  unfold checkB at hQ
  refine join_b (decide (16 < ops.length ∨ ops.any longO = true)) (fun h' => Ext h1 h') ?_ ?_
  · refine ifB_of (fun hc => ?_) (fun hc => ?_)
    · have := of_decide_eq_true hc
      exact ⟨by simp; omega, Ext.refl _⟩
    · have := of_decide_eq_false hc
      refine ld_loc (s := .slice) (x := s) l1 rfl ?_
      refine containsOp_spec (hs.ext u1) long_pred hl fun h2 u2 => ⟨?_, u2⟩
      have : ¬ 16 < ops.length := by omega
      simp only [this, false_or, Bool.decide_eq_true]
  · intro h2 u2
    refine ifB_of (fun hc => ?_) (fun hc => ?_)
    · have hc := of_decide_eq_true hc
      have := hQ h2 (u1.trans u2)
      rw [if_pos hc] at this
      exact this
    · have hc := of_decide_eq_false hc
      have l2 := l1.ext u2
      have h16 : ops.length ≤ 16 := by
        rcases Nat.lt_or_ge 16 ops.length with h | h
        · exact absurd (.inl h) hc
        · exact h
      refine join_b (decide (ops = [] ∨ seq = 0 ∨ 9223372036854775808 < seq ∨ 9223372036854775809 < seq + ops.length ∨ ops.any badO = true)) (fun h' => Ext h2 h') ?_ ?_
      · refine ifB_of (fun he => ?_) (fun he => ?_)
        · have : ops = [] := by
            have : (s.len : Int) = 0 := by simpa using he
            exact List.eq_nil_of_length_eq_zero (by omega)
          exact ⟨by simp [this], Ext.refl _⟩
        · have hne : ops ≠ [] := by
            rintro rfl
            simp [hlen] at he
          have hpos : 1 ≤ ops.length := by cases ops <;> simp at hne ⊢
          refine ld_loc (s := .int .u64) (x := (seq : Int)) l2 rfl ?_
          refine ifB_of (fun he => ?_) (fun he => ?_)
          · have : seq = 0 := by have : (seq : Int) = 0 := by simpa using he
                                 omega
            exact ⟨by simp [this], Ext.refl _⟩
          · have h0 : seq ≠ 0 := by rintro rfl; simp at he
            refine ld_loc (s := .int .u64) (x := (seq : Int)) l2 rfl ?_
            refine ifB_of (fun he => ?_) (fun he => ?_)
            · have : 9223372036854775808 < seq := by have := of_decide_eq_true he; omega
              exact ⟨by simp [this], Ext.refl _⟩
            · have hle : ¬ 9223372036854775808 < seq := by have := of_decide_eq_false he; omega
              refine lds_loc (l := [.int .u64, .slice]) ((seq : Int), s, ()) l2 ?_
              refine last_spec fun h3 u3 => ?_
              have e : ((seq + max s.len 1 % 18446744073709551616) % 18446744073709551616 + 18446744073709551615) % 18446744073709551616 = seq + ops.length - 1 := by omega
              rw [e]
              refine ifB_of (fun he => ?_) (fun he => ?_)
              · have : 9223372036854775809 < seq + ops.length := by have := of_decide_eq_true he; omega
                exact ⟨by simp [this], u3⟩
              · have hlt : ¬ 9223372036854775809 < seq + ops.length := by have := of_decide_eq_false he; omega
                refine ld_loc (s := .slice) (x := s) (l2.ext u3) rfl ?_
                refine containsOp_spec ((hs.ext (u1.trans u2)).ext u3) bad_pred hl fun h4 u4 => ⟨?_, u3.trans u4⟩
                simp only [hne, h0, hle, hlt, false_or, Bool.decide_eq_true]
      · intro h3 u3
        have := hQ h3 ((u1.trans u2).trans u3)
        rw [if_neg hc] at this
        refine ifB_of (fun hc => ?_) (fun hc => ?_)
        · rw [if_pos (of_decide_eq_true hc)] at this
          exact this
        · rw [if_neg (of_decide_eq_false hc)] at this
          exact this
theorem rcheck_spec {h : Heap} {seq : Nat} {s : Sl} {ops : List OpV} {Q : Int → PP} (hseq : seq < 18446744073709551616) (hs : Sees 3 encO h s ops) (hl : ops.length < 4611686018427387904)
    (hQ : ∀ h', Ext h h' → Q (checkB seq ops : Int) h') : ref06_Check.C (seq : Int) s Q h := by
  apply ref06_Check.ok
  unfold ref06_Check.F
  have hlen := hs.len
  refine newP_loc fun h1 u1 _ l1 => ?_
  have hq := hQ h1 u1
  refine ld_loc (s := .slice) (x := s) l1 rfl ?_
  unfold checkB at hq
  refine ifB_of (fun hc => ?_) (fun hc => ?_)
  · rw [if_pos (.inl (by have := of_decide_eq_true hc; omega))] at hq
    exact hq
  · have h16 : ¬ 16 < ops.length := by have := of_decide_eq_false hc; omega
    refine ⟨fun _ i h' => ∃ k : Nat, k ≤ ops.length ∧ i = (k : Int) ∧ (ops.take k).any longO = false ∧ h' = h1, fun _ i _ => ops.length - i.toNat, ⟨0, by omega, rfl, by simp, rfl⟩, ?_⟩
    rintro ⟨m, i, _⟩ h2 ⟨k, hk, hi, ha, hu⟩
    dsimp only at hi ha hu
    subst hi hu
    refine ld_loc (s := .slice) (x := s) l1 rfl ?_
    refine ifB_of (fun hc => ?_) (fun hc => ?_)
    · have hk1 : k < ops.length := by have := of_decide_eq_true hc; dsimp only at this; omega
      refine join_b (longO ops[k]) (fun h' => h' = h2) ?_ ?_
      · refine ld_loc (s := .slice) (x := s) l1 rfl ?_
        dsimp only
        refine Sees.idx encO_len (hs.ext u1) rfl (List.getElem?_eq_getElem hk1) fun a hc => ?_
        refine ld_of (s := .str) (x := ops[k].key) (hc 0 _ rfl) ?_
        refine ifB_of (fun hb => ?_) (fun hb => ?_)
        · have := of_decide_eq_true hb
          exact ⟨by simp [longO]; omega, rfl⟩
        · have hb := of_decide_eq_false hb
          refine ld_loc (s := .slice) (x := s) l1 rfl ?_
          refine Sees.idx encO_len (hs.ext u1) rfl (List.getElem?_eq_getElem hk1) fun a hc => ?_
          refine ld_of (s := .str) (x := ops[k].val) (hc 1 _ rfl) ⟨?_, rfl⟩
          unfold longO
          rw [show decide (64 < ops[k].key.length) = false by simp; omega, Bool.false_or, decide_eq_decide]
          omega
      · rintro h2 rfl
        refine ifB_of (fun hb => ?_) (fun hb => ?_)
        · rw [if_pos (.inr (List.any_eq_true.2 ⟨_, List.getElem_mem hk1, hb⟩))] at hq
          exact hq
        · dsimp only
          rw [wi (by omega) (by omega)]
          refine ⟨⟨k + 1, by omega, rfl, ?_, rfl⟩, by dsimp only [unc]; omega⟩
          rw [List.take_succ_eq_append_getElem hk1, List.any_append, ha]
          simpa using hb
    · have hk1 : k = ops.length := by have := of_decide_eq_false hc; dsimp only at this; omega
      subst hk1
      rw [List.take_length] at ha
      have hno : ¬ (16 < ops.length ∨ ops.any longO = true) := by simp only [not_or]; exact ⟨h16, by rw [ha]; simp⟩
      rw [if_neg hno] at hq
      refine join_b (decide (ops = [] ∨ seq = 0 ∨ 9223372036854775808 < seq ∨ 9223372036854775809 < seq + ops.length)) (fun h' => h' = h2) ?_ ?_
      · refine ld_loc (s := .slice) (x := s) l1 rfl ?_
        refine ifB_of (fun he => ?_) (fun he => ?_)
        · have : ops = [] := by
            have : (s.len : Int) = 0 := by simpa using he
            exact List.eq_nil_of_length_eq_zero (by omega)
          exact ⟨by simp [this], rfl⟩
        · have hne : ops ≠ [] := by
            rintro rfl
            simp [hlen] at he
          refine ld_loc (s := .int .u64) (x := (seq : Int)) l1 rfl ?_
          refine ifB_of (fun he => ?_) (fun he => ?_)
          · have : seq = 0 := by have := of_decide_eq_true he; omega
            exact ⟨by simp [this], rfl⟩
          · have h0 : seq ≠ 0 := by have := of_decide_eq_false he; omega
            refine ld_loc (s := .int .u64) (x := (seq : Int)) l1 rfl ?_
            refine ifB_of (fun he => ?_) (fun he => ?_)
            · have : 9223372036854775808 < seq := by have := of_decide_eq_true he; omega
              exact ⟨by simp [this], rfl⟩
            · have hle : ¬ 9223372036854775808 < seq := by have := of_decide_eq_false he; omega
              refine ld_loc (s := .int .u64) (x := (seq : Int)) l1 rfl ?_
              refine ld_loc (s := .slice) (x := s) l1 rfl ⟨?_, rfl⟩
              rw [wu (x := (s.len : Int)) (by omega) (by omega), wu (by omega) (by omega)]
              simp only [hne, h0, hle, false_or, decide_eq_decide]
              omega
      · rintro h2 rfl
        refine ifB_of (fun hb => ?_) (fun hb => ?_)
        · have hb := of_decide_eq_true hb
          rw [if_pos (by rcases hb with h | h | h | h <;> simp [h])] at hq
          exact hq
        · have hb := of_decide_eq_false hb
          simp only [not_or] at hb
          refine ⟨fun _ i h' => ∃ k : Nat, k ≤ ops.length ∧ i = (k : Int) ∧ (ops.take k).any badO = false ∧ h' = h2, fun _ i _ => ops.length - i.toNat, ⟨0, by omega, rfl, by simp, rfl⟩, ?_⟩
          rintro ⟨m, i, _⟩ h3 ⟨k, hk, hi, ha, hu⟩
          dsimp only at hi ha hu
          subst hi hu
          refine ld_loc (s := .slice) (x := s) l1 rfl ?_
          refine ifB_of (fun hc => ?_) (fun hc => ?_)
          · have hk1 : k < ops.length := by have := of_decide_eq_true hc; dsimp only at this; omega
            refine join_b (badO ops[k]) (fun h' => h' = h3) ?_ ?_
            · refine ld_loc (s := .slice) (x := s) l1 rfl ?_
              dsimp only
              refine Sees.idx encO_len (hs.ext u1) rfl (List.getElem?_eq_getElem hk1) fun a hc => ?_
              refine ld_of (s := .str) (x := ops[k].key) (hc 0 _ rfl) ?_
              refine ifB_of (fun hb => ?_) (fun hb => ?_)
              · have : ops[k].key = [] := List.eq_nil_of_length_eq_zero (by have : (ops[k].key.length : Int) = 0 := by simpa using hb
                                                                            omega)
                exact ⟨by simp [badO, this], rfl⟩
              · have hke : ops[k].key.isEmpty = false := by
                  cases hk : ops[k].key with
                  | nil => rw [hk] at hb; simp at hb
                  | cons c r => rfl
                refine ld_loc (s := .slice) (x := s) l1 rfl ?_
                refine Sees.idx encO_len (hs.ext u1) rfl (List.getElem?_eq_getElem hk1) fun a hc => ?_
                refine ld_of (s := .bool) (x := ops[k].gone) (hc 2 _ rfl) ?_
                refine ifB_of (fun hg => ?_) (fun hg => ?_)
                · refine ld_loc (s := .slice) (x := s) l1 rfl ?_
                  refine Sees.idx encO_len (hs.ext u1) rfl (List.getElem?_eq_getElem hk1) fun a hc => ?_
                  refine ld_of (s := .str) (x := ops[k].val) (hc 1 _ rfl) ⟨?_, rfl⟩
                  unfold badO
                  rw [hke, hg]
                  cases ops[k].val with
                  | nil => rfl
                  | cons c r => simp
                · exact ⟨by unfold badO; rw [hke, hg]; rfl, rfl⟩
            · rintro h3 rfl
              refine ifB_of (fun hb => ?_) (fun hb => ?_)
              · rw [if_pos (by right; right; right; right; exact List.any_eq_true.2 ⟨_, List.getElem_mem hk1, hb⟩)] at hq
                exact hq
              · dsimp only
                rw [wi (by omega) (by omega)]
                refine ⟨⟨k + 1, by omega, rfl, ?_, rfl⟩, by dsimp only [unc]; omega⟩
                rw [List.take_succ_eq_append_getElem hk1, List.any_append, ha]
                simpa using hb
          · have hk1 : k = ops.length := by have := of_decide_eq_false hc; dsimp only at this; omega
            subst hk1
            rw [List.take_length] at ha
            rw [if_neg (by simp only [not_or]; exact ⟨hb.1, hb.2.1, hb.2.2.1, hb.2.2.2, by rw [ha]; simp⟩)] at hq
            exact hq
end Go.Proofs.W
end
section
set_option maxRecDepth 100000
set_option linter.unusedVariables false
namespace Go.Proofs.W
open Go Go.Shal Go.Proofs Go.M
theorem check_long {seq : Nat} {ops : List OpV} (h : checkB seq ops = 0) : ops.length ≤ 16 ∧ (∀ o ∈ ops, o.key.length ≤ 64 ∧ o.val.length ≤ 512) ∧ ops ≠ [] ∧ 0 < seq ∧ seq ≤ 9223372036854775808 ∧ (∀ o ∈ ops, badO o = false) := by
  unfold checkB at h
  split at h
  · cases h
  · rename_i h1
    split at h
    · cases h
    · rename_i h2
      simp only [not_or, Nat.not_lt, Bool.not_eq_true] at h1 h2
      refine ⟨h1.1, fun o ho => ?_, h2.1, by omega, h2.2.2.1, fun o ho => ?_⟩
      · have := List.any_eq_false.1 h1.2 o ho
        simp [longO] at this
        exact this
      · have := List.any_eq_false.1 h2.2.2.2.2 o ho
        simpa using this
theorem opB_length {o : OpV} (h1 : o.key.length ≤ 64) (h2 : o.val.length ≤ 512) : (opB o).length ≤ 600 := by
  unfold opB
  split
  · have := textB_length [o.key] (by simp; omega)
    simp at this ⊢
    omega
  · have := textB_length [o.key, o.val] (by simp; omega)
    simp at this ⊢
    omega
theorem flat_take_length {ops : List OpV} (h : ∀ o ∈ ops, o.key.length ≤ 64 ∧ o.val.length ≤ 512) (k : Nat) : ((ops.take k).flatMap opB).length ≤ 600 * k := by
  induction ops generalizing k with
  | nil => simp
  | cons o ops ih =>
    cases k with
    | zero => simp
    | succ k =>
      rw [List.take_succ_cons, List.flatMap_cons, List.length_append]
      have h1 := h o (by simp)
      have := opB_length h1.1 h1.2
      have := ih (fun x hx => h x (by simp [hx])) k
      omega
theorem encode_spec {h : Heap} {seq : Nat} {s : Sl} {ops : List OpV} {Q : Bytes → Int → PP} (hseq : seq < 18446744073709551616) (hs : Sees 3 encO h s ops) (hl : ops.length < 4611686018427387904)
    (hQ : ∀ h', Ext h h' → if checkB seq ops = 0 then Q (batB seq ops) 0 h' else Q [] (checkB seq ops : Int) h') : batch_Encode.C (seq : Int) s Q h := by
  apply batch_Encode.ok
  unfold batch_Encode.F
  have hlen := hs.len
  refine newP_loc fun h1 u1 z1 l1 => ?_
  refine lds_loc (l := [.int .u64, .slice]) ((seq : Int), s, ()) l1 ?_
  refine check_spec hseq (hs.ext u1) hl fun h2 u2 => ?_
  have u02 := u1.trans u2
  refine ifB_of (fun hc => ?_) (fun hc => ?_)
  · have hne : checkB seq ops ≠ 0 := by intro he; rw [he] at hc; simp at hc
    have := hQ h2 u02
    rw [if_neg hne] at this
    exact this
  · have he : checkB seq ops = 0 := by
      have : ((checkB seq ops : Nat) : Int) = 0 := by simpa using hc
      omega
    obtain ⟨c16, ckv, _⟩ := check_long he
    have hq : ∀ h', Ext h h' → Q (batB seq ops) 0 h' := fun h' u => by have := hQ h' u; rw [if_pos he] at this; exact this
    refine newP_bld fun h3 u3 z3 b3 => ?_
    have l3 := (l1.ext u2).ext u3
    refine ld_loc (s := .int .u64) (x := (seq : Int)) l3 rfl ?_
    refine ld_loc (s := .slice) (x := s) l3 rfl ?_
    rw [wu (x := (s.len : Int)) (by omega) (by omega)]
    refine newP_sees (k := 1) (enc := fun n => [encU n]) (xs := [seq, ops.length]) (fun _ => rfl) (by rw [hlen]; rfl) rfl fun h4 u4 z4 s4 => ?_
    refine var_spec s4 (by simp; omega) (by simp) fun h5 u5 => ?_
    have hsz2 : h2.size ≤ h5.size := by have := u5.size; omega
    have r9 := row_length_le hseq
    have r9' := row_length_le (n := ops.length) (by omega)
    have e1 : [seq, ops.length].flatMap row = row seq ++ row ops.length := by simp
    rw [e1]
    refine write_spec (B := h2.size) hsz2 ((b3.ext u4).ext u5) (by simp; omega) fun _ _ h6 b6 u6 _ => ?_
    have u26 : Up h2.size h2 h6 := ((u3.trans (u4.trans u5)).up _).trans u6
    refine ld_loc (s := .slice) (x := s) ((l1.ext u2).ext u26.ext) rfl ?_
    refine ⟨fun i h' => ∃ k : Nat, k ≤ ops.length ∧ i = (k : Int) ∧ Bld h2.size h2.size (row seq ++ row ops.length ++ (ops.take k).flatMap opB) h' ∧ Up h2.size h2 h', fun i _ => ops.length - i.toNat, ⟨0, by omega, rfl, by simpa using b6, u26⟩, ?_⟩
    rintro ⟨i, _⟩ h7 ⟨k, hk, hi, b7, u7⟩
    dsimp only at hi b7 u7
    subst hi
    refine ifB_of (fun hc => ?_) (fun hc => ?_)
    · have hk1 : k < ops.length := by have := of_decide_eq_true hc; dsimp only at this; omega
      have hkv := ckv _ (List.getElem_mem hk1)
      have hfl := flat_take_length ckv k
      have hlB : (row seq ++ row ops.length ++ (ops.take k).flatMap opB).length ≤ 10000 := by simp only [List.length_append]; omega
      refine joinT_dup ?_
      dsimp only
      refine Sees.idx encO_len (hs.ext (u02.trans u7.ext)) rfl (List.getElem?_eq_getElem hk1) fun a hc => ?_
      refine lds_at (l := [.str, .str, .bool]) (ops[k].key, ops[k].val, ops[k].gone, ()) hc ?_
      dsimp only [unc]
      refine newP_loc fun h8 u8 z8 l8 => ?_
      refine sts_loc l8 rfl (by simp) fun h9 l9 o9 => ?_
      have u89 : Up h7.size h7 h9 := (u8.up _).trans (o9.up (Nat.le_refl _))
      have b9 := b7.ext u89.ext
      have fin : ∀ (h' : Heap), Bld h2.size h2.size (row seq ++ row ops.length ++ (ops.take k).flatMap opB ++ opB ops[k]) h' → Up h2.size h7 h' →
          (∃ k' : Nat, k' ≤ ops.length ∧ IntKind.wrap .i64 ((k : Int) + 1) = (k' : Int) ∧ Bld h2.size h2.size (row seq ++ row ops.length ++ (ops.take k').flatMap opB) h' ∧ Up h2.size h2 h') ∧ ops.length - (IntKind.wrap .i64 ((k : Int) + 1)).toNat < ops.length - ((k : Int)).toNat := by
        intro h' b' u'
        rw [wi (by omega) (by omega)]
        refine ⟨⟨k + 1, by omega, rfl, ?_, u7.trans u'⟩, by omega⟩
        rw [List.take_succ_eq_append_getElem hk1, List.flatMap_append, ← List.append_assoc]
        simpa using b'
      have ob := opB_length hkv.1 hkv.2
      refine ld_loc (s := .bool) (x := ops[k].gone) l9 rfl ?_
      refine ifB_of (fun hg => ?_) (fun hg => ?_)
      · refine ld_loc (s := .str) (x := ops[k].key) l9 rfl ?_
        refine newP_sees (k := 1) (enc := fun l => [encS l]) (xs := [ops[k].key]) (fun _ => rfl) rfl rfl fun h10 u10 z10 s10 => ?_
        refine text_spec s10 (by simp) (by simp; omega) fun h11 u11 => ?_
        have eo : ([1] : Bytes) ++ textB [ops[k].key] = opB ops[k] := by unfold opB; rw [hg]; rfl
        refine ⟨by rw [← List.length_append, eo]; omega, ?_⟩
        rw [eo]
        have u711 : Ext h7 h11 := u89.ext.trans (u10.trans u11)
        have hz := u7.size
        refine write_spec (B := h2.size) (by have := u711.size; omega) ((b9.ext u10).ext u11) (by omega) fun _ _ h12 b12 u12 _ => ?_
        exact fin h12 b12 ((u711.up _).trans u12)
      · refine ld_loc (s := .str) (x := ops[k].key) l9 rfl ?_
        refine ld_loc (s := .str) (x := ops[k].val) l9 rfl ?_
        refine newP_sees (k := 1) (enc := fun l => [encS l]) (xs := [ops[k].key, ops[k].val]) (fun _ => rfl) rfl rfl fun h10 u10 z10 s10 => ?_
        refine text_spec s10 (by simp) (by simp; omega) fun h11 u11 => ?_
        have eo : ([0] : Bytes) ++ textB [ops[k].key, ops[k].val] = opB ops[k] := by unfold opB; rw [hg]; rfl
        refine ⟨by rw [← List.length_append, eo]; omega, ?_⟩
        rw [eo]
        have u711 : Ext h7 h11 := u89.ext.trans (u10.trans u11)
        have hz := u7.size
        refine write_spec (B := h2.size) (by have := u711.size; omega) ((b9.ext u10).ext u11) (by omega) fun _ _ h12 b12 u12 _ => ?_
        exact fin h12 b12 ((u711.up _).trans u12)
    · have hk1 : k = ops.length := by have := of_decide_eq_false hc; dsimp only at this; omega
      subst hk1
      rw [List.take_length] at b7
      refine string_spec (B := h2.size) u7.size b7 fun h8 u8 => ?_
      exact hq h8 (u02.trans (u7.trans u8).ext)
theorem rencode_spec {h : Heap} {seq : Nat} {s : Sl} {ops : List OpV} {Q : Bytes → Int → PP} (hseq : seq < 18446744073709551616) (hs : Sees 3 encO h s ops) (hl : ops.length < 4611686018427387904)
    (hQ : ∀ h', Ext h h' → if checkB seq ops = 0 then Q (batB seq ops) 0 h' else Q [] (checkB seq ops : Int) h') : ref06_Encode.C (seq : Int) s Q h := by
  apply ref06_Encode.ok
  unfold ref06_Encode.F
  have hlen := hs.len
  refine newP_loc fun h1 u1 z1 l1 => ?_
  refine lds_loc (l := [.int .u64, .slice]) ((seq : Int), s, ()) l1 ?_
  refine rcheck_spec hseq (hs.ext u1) hl fun h2 u2 => ?_
  have u02 := u1.trans u2
  refine ifB_of (fun hc => ?_) (fun hc => ?_)
  · have hne : checkB seq ops ≠ 0 := by intro he; rw [he] at hc; simp at hc
    have := hQ h2 u02
    rw [if_neg hne] at this
    exact this
  · have he : checkB seq ops = 0 := by
      have : ((checkB seq ops : Nat) : Int) = 0 := by simpa using hc
      omega
    obtain ⟨c16, ckv, _⟩ := check_long he
    have hq : ∀ h', Ext h h' → Q (batB seq ops) 0 h' := fun h' u => by have := hQ h' u; rw [if_pos he] at this; exact this
    have l2 := l1.ext u2
    refine draw_ext ?_
    refine ldG_ext (s := .int .u64) (x := (seq : Int)) (l2.cell (n := 0) rfl) ?_
    refine ldG_ext (s := .slice) (x := s) (l2.cell (n := 1) rfl) ?_
    have r9 := row_length_le hseq
    have r9' := row_length_le (n := ops.length) (by omega)
    refine row_spec hseq fun h3 u3 => with_ext u3 ?_
    rw [wu (x := (s.len : Int)) (by omega) (by omega), hlen]
    refine row_spec (by omega) fun h4 u4 => with_ext (u3.trans u4) ⟨by omega, ?_⟩
    refine ⟨fun t i h' => ∃ k : Nat, k ≤ ops.length ∧ i = (k : Int) ∧ t = row seq ++ row ops.length ++ (ops.take k).flatMap opB ∧ Ext h2 h', fun _ i _ => ops.length - i.toNat, ⟨0, by omega, rfl, by simp, u3.trans u4⟩, ?_⟩
    rintro ⟨t, i, _⟩ h7 ⟨k, hk, hi, ht, u7⟩
    dsimp only at hi ht u7
    subst hi ht
    refine ld_loc (s := .slice) (x := s) (l2.ext u7) rfl ?_
    refine ifB_of (fun hc => ?_) (fun hc => ?_)
    · have hk1 : k < ops.length := by have := of_decide_eq_true hc; dsimp only at this; omega
      have hkv := ckv _ (List.getElem_mem hk1)
      have hfl := flat_take_length ckv k
      have hlB : (row seq ++ row ops.length ++ (ops.take k).flatMap opB).length ≤ 10000 := by simp only [List.length_append]; omega
      refine joinT_dup ?_
      dsimp only
      refine ld_loc (s := .slice) (x := s) (l2.ext u7) rfl ?_
      refine Sees.idx encO_len (hs.ext (u02.trans u7)) rfl (List.getElem?_eq_getElem hk1) fun a hc => ?_
      refine lds_at (l := [.str, .str, .bool]) (ops[k].key, ops[k].val, ops[k].gone, ()) hc ?_
      dsimp only [unc]
      refine newP_loc fun h8 u8 z8 l8 => ?_
      refine sts_loc l8 rfl (by simp) fun h9 l9 o9 => ?_
      have u89 : Up h7.size h7 h9 := (u8.up _).trans (o9.up (Nat.le_refl _))
      have fin : ∀ (h' : Heap) (t : Bytes), t = row seq ++ row ops.length ++ (ops.take k).flatMap opB ++ opB ops[k] → Ext h7 h' →
          (∃ k' : Nat, k' ≤ ops.length ∧ IntKind.wrap .i64 ((k : Int) + 1) = (k' : Int) ∧ t = row seq ++ row ops.length ++ (ops.take k').flatMap opB ∧ Ext h2 h') ∧ ops.length - (IntKind.wrap .i64 ((k : Int) + 1)).toNat < ops.length - ((k : Int)).toNat := by
        intro h' t ht u'
        rw [wi (by omega) (by omega)]
        refine ⟨⟨k + 1, by omega, rfl, ?_, u7.trans u'⟩, by omega⟩
        rw [List.take_succ_eq_append_getElem hk1, List.flatMap_append, ← List.append_assoc, ht]
        simp
      have ob := opB_length hkv.1 hkv.2
      refine ld_loc (s := .bool) (x := ops[k].gone) l9 rfl ?_
      refine ifB_of (fun hg => ?_) (fun hg => ?_)
      · refine ⟨by simp only [List.length_singleton]; omega, ?_⟩
        refine ld_loc (s := .str) (x := ops[k].key) l9 rfl ?_
        refine newP_sees (k := 1) (enc := fun l => [encS l]) (xs := [ops[k].key]) (fun _ => rfl) rfl rfl fun h10 u10 z10 s10 => ?_
        refine rtext_spec s10 (by simp) (by simp; omega) fun h11 u11 => ?_
        have eo : ([1] : Bytes) ++ textB [ops[k].key] = opB ops[k] := by unfold opB; rw [hg]; rfl
        refine ⟨by rw [← List.length_append, List.append_assoc, eo, List.length_append]; omega, ?_⟩
        rw [List.append_assoc _ ([1] : Bytes), eo]
        exact fin h11 _ rfl (u89.ext.trans (u10.trans u11))
      · refine ⟨by simp only [List.length_singleton]; omega, ?_⟩
        refine ld_loc (s := .str) (x := ops[k].key) l9 rfl ?_
        refine ld_loc (s := .str) (x := ops[k].val) l9 rfl ?_
        refine newP_sees (k := 1) (enc := fun l => [encS l]) (xs := [ops[k].key, ops[k].val]) (fun _ => rfl) rfl rfl fun h10 u10 z10 s10 => ?_
        refine rtext_spec s10 (by simp) (by simp; omega) fun h11 u11 => ?_
        have eo : ([0] : Bytes) ++ textB [ops[k].key, ops[k].val] = opB ops[k] := by unfold opB; rw [hg]; rfl
        refine ⟨by rw [← List.length_append, List.append_assoc, eo, List.length_append]; omega, ?_⟩
        rw [List.append_assoc _ ([0] : Bytes), eo]
        exact fin h11 _ rfl (u89.ext.trans (u10.trans u11))
    · have hk1 : k = ops.length := by have := of_decide_eq_false hc; dsimp only at this; omega
      subst hk1
      rw [List.take_length]
      exact hq h7 (u02.trans u7)
end Go.Proofs.W
end
section
set_option maxRecDepth 100000
set_option linter.unusedVariables false
namespace Go.Proofs.W
open Go Go.Shal Go.Proofs Go.M
theorem readText_bnd {s t : Bytes} {m k : Nat} (h : readText s m = some (t, k)) : k ≤ s.length := (readText_some h).2.2.1
theorem one_spec {h : Heap} {s : Bytes} {Q : Bytes → Bytes → Bool → Bytes → Bool → PP} (hl : s.length < 4611686018427387904)
    (hQ : ∀ h', Ext h h' → match readOp s with
      | some (o, r) => Q o.key o.val o.gone r true h'
      | none => Q [] [] false [] false h') : batch_one.C s Q h := by
  apply batch_one.ok
  unfold batch_one.F
  refine newP_loc fun h1 u1 z1 l1 => ?_
  have ret : ∀ (h2 : Heap) (a b : Bytes) (c : Bool) (r : Bytes) (ok : Bool), Ext h1 h2 → (∀ h', Ext h h' → Q a b c r ok h') →
      stsP ⟨h.size, 0, none⟩ [.str, .str, .bool] (a, b, c, ()) 0 (lds [.str, .str, .bool] ⟨h.size, 0, none⟩ fun (s2 : Bytes) (s3 : Bytes) (b4 : Bool) => Q s2 s3 b4 r ok) h2 := by
    intro h2 a b c r ok u2 hq
    refine ret_loc (l1.ext u2) rfl (by simp) fun h3 o3 => hq h3 ?_
    exact (((u1.trans u2).up h.size).trans (o3.up (Nat.le_refl _))).ext
  cases s with
  | nil => exact ret h1 _ _ _ _ _ (Ext.refl _) hQ
  | cons c r =>
    rw [ifB_of_false (by rfl)]
    rw [List.length_cons] at hl
    refine sliceStr_of (a := 0) (b := 1) (t := [c]) rfl rfl (by omega) (by simp) (by simp) ?_
    refine sliceStr_of (a := 1) (b := (c :: r).length) (t := r) rfl rfl (by simp) (Nat.le_refl _) (by rw [List.take_length]; rfl) ?_
    refine readText_spec (most := 64) (by omega) (by omega) fun h2 u2 => ?_
    have hr := hQ
    simp only [readOp] at hr
    cases h1t : readText r 64 with
    | none =>
      rw [h1t] at hr
      refine joinT_dup ?_
      exact ret h2 _ _ _ _ _ u2 hr
    | some p =>
      obtain ⟨key, k⟩ := p
      rw [h1t] at hr
      have hk := readText_bnd h1t
      dsimp only at hr ⊢
      refine joinT_dup ?_
      rw [ifB_of_false (by rfl)]
      by_cases hc1 : c = 1
      · subst hc1
        rw [if_pos rfl] at hr
        rw [ifB_of_true (by rfl)]
        dsimp only
        rw [ifB_of_false (by rfl), wi (by omega) (by omega)]
        refine sliceStr_of (a := 1 + k) (b := (1 :: r : Bytes).length) (t := r.drop k) rfl rfl (by simp; omega) (Nat.le_refl _) (by rw [List.take_length, Nat.add_comm, List.drop_succ_cons]) ?_
        rw [ifB_of_true (by rfl)]
        exact ret h2 _ _ _ _ _ u2 hr
      · rw [if_neg hc1] at hr
        by_cases hc0 : c = 0
        · subst hc0
          rw [if_pos rfl] at hr
          rw [ifB_of_false (by rfl)]
          dsimp only
          rw [ifB_of_false (by rfl), wi (by omega) (by omega)]
          refine sliceStr_of (a := 1 + k) (b := (0 :: r : Bytes).length) (t := r.drop k) rfl rfl (by simp; omega) (Nat.le_refl _) (by rw [List.take_length, Nat.add_comm, List.drop_succ_cons]) ?_
          rw [ifB_of_false (by rfl)]
          refine readText_spec (most := 512) (by omega) (by rw [List.length_drop]; omega) fun h3 u3 => ?_
          cases h2t : readText (r.drop k) 512 with
          | none =>
            rw [h2t] at hr
            exact ret h3 _ _ _ _ _ (u2.trans u3) hr
          | some q =>
            obtain ⟨val, j⟩ := q
            rw [h2t] at hr
            have hj := readText_bnd h2t
            dsimp only at hr ⊢
            rw [ifB_of_false (by rfl)]
            refine draw_ext ?_
            refine sliceStr_of (a := j) (b := (r.drop k).length) (t := (r.drop k).drop j) rfl rfl hj (Nat.le_refl _) (by rw [List.take_length]) ?_
            exact ret h3 _ _ _ _ _ (u2.trans u3) hr
        · rw [if_neg hc0] at hr
          rw [ifB_of_true (by simpa using hc0)]
          dsimp only
          rw [ifB_of_true (by simpa using hc1)]
          exact ret h2 _ _ _ _ _ u2 hr
/-- What the two decoders hand back. -/
def Got (h0 : Heap) (r : Option (Nat × List OpV)) (Q : Int → Sl → Bool → PP) (h' : Heap) : Prop :=
  match r with
  | some (seq, ops) => ∀ s, Own h0.size 124 3 encO h' s ops → Q (seq : Int) s true h'
  | none => Q 0 ⟨none, 0, 0⟩ false h'
theorem decode_spec {h : Heap} {s : Bytes} {Q : Int → Sl → Bool → PP} (hl : s.length < 4611686018427387904) (hQ : ∀ h', Ext h h' → Got h (decB s) Q h') : batch_Decode.C s Q h := by
  apply batch_Decode.ok
  unfold batch_Decode.F
  refine newP_loc fun h1 u1 z1 l1 => ?_
  have ret : ∀ (h2 : Heap) (a : Int) (b : Sl) (ok : Bool), Up h1.size h1 h2 → (∀ h', Only h.size h2 h' → Q a b ok h') →
      stsP ⟨h.size, 0, none⟩ [.int .u64, .slice] (a, b, ()) 0 (lds [.int .u64, .slice] ⟨h.size, 0, none⟩ fun (s2 : Int) (s3 : Sl) => Q s2 s3 ok) h2 := by
    intro h2 a b ok u2 hq
    exact ret_loc (l1.ext u2.ext) rfl (by simp) fun h3 o3 => hq h3 o3
  have u0 : ∀ h2 h', Up h1.size h1 h2 → Only h.size h2 h' → Ext h h' := fun h2 h' u2 o => (((u1.trans u2.ext).up h.size).trans (o.up (Nat.le_refl _))).ext
  have no : decB s = none → ∀ h2, Up h1.size h1 h2 → stsP ⟨h.size, 0, none⟩ [.int .u64, .slice] ((0 : Int), (⟨none, 0, 0⟩ : Sl), ()) 0 (lds [.int .u64, .slice] ⟨h.size, 0, none⟩ fun (s2 : Int) (s3 : Sl) => Q s2 s3 false) h2 := by
    intro hn h2 u2
    refine ret h2 _ _ _ u2 fun h' o => ?_
    have := hQ h' (u0 h2 h' u2 o)
    rw [hn] at this
    exact this
  refine readVar_spec hl fun h2 u2 => ?_
  cases hv : readVar s with
  | none => exact no (by unfold decB readHead; rw [hv]) h2 (u2.up _)
  | some p =>
    obtain ⟨seq, k⟩ := p
    obtain ⟨r1, r2, r3, r4⟩ := readVar_row hv
    dsimp only
    rw [ifB_of_false (by rfl)]
    refine sliceStr_of (a := k) (b := s.length) (t := s.drop k) rfl rfl r2 (Nat.le_refl _) (by rw [List.take_length]) ?_
    refine readVar_spec (by rw [List.length_drop]; omega) fun h3 u3 => ?_
    cases hw : readVar (s.drop k) with
    | none =>
      refine joinT_dup ?_
      exact no (by unfold decB readHead; rw [hv]; dsimp only; rw [hw]) h3 ((u2.trans u3).up _)
    | some p =>
      obtain ⟨n, j⟩ := p
      obtain ⟨s1, s2, s3, s4⟩ := readVar_row hw
      rw [List.length_drop] at s2
      dsimp only
      refine joinT_dup ?_
      rw [ifB_of_false (by rfl)]
      dsimp only
      refine ifB_of (fun hc => ?_) (fun hc => ?_)
      · have hgt := of_decide_eq_true hc
        exact no (by unfold decB readHead; rw [hv]; dsimp only; rw [hw]; dsimp only; rw [if_neg (by omega)]) h3 ((u2.trans u3).up _)
      · have hle : n ≤ 16 := by have := of_decide_eq_false hc; omega
        have hhead : readHead s = some (seq, n, (s.drop k).drop j) := by unfold readHead; rw [hv]; dsimp only; rw [hw]; dsimp only; rw [if_pos hle]
        refine newP_loc fun h4 u4 z4 l4 => ?_
        refine sts_loc l4 rfl (by simp) fun h5 l5 o5 => ?_
        rw [wi (by omega) (by omega)]
        refine sliceStr_of (a := k + j) (b := s.length) (t := (s.drop k).drop j) (by omega) rfl (by omega) (Nat.le_refl _) (by rw [List.take_length, List.drop_drop]) ?_
        have u13 : Ext h1 h3 := u2.trans u3
        have hz3 := u13.size
        have u5 : Up h3.size h3 h5 := (u4.up _).trans (o5.up (Nat.le_refl _))
        refine ⟨fun _ t m h' => ∃ (done : List OpV) (left : Nat) (sl : Sl), m = (left : Int) ∧ left + done.length = n ∧ (∀ os r, readOps readOp left t = some (os, r) → readOps readOp n ((s.drop k).drop j) = some (done ++ os, r)) ∧ (readOps readOp left t = none → readOps readOp n ((s.drop k).drop j) = none) ∧
            t.length ≤ s.length ∧ Shal.Loc h3.size 38 [.int .u64 (seq : Int), .slice sl.p sl.len sl.cap] h' ∧ Own h3.size 124 3 encO h' sl done ∧ Up h3.size h3 h', fun _ _ m _ => m.toNat, ⟨[], n, ⟨none, 0, 0⟩, rfl, by simp, fun os r he => he, fun he => he, by simp only [List.length_drop]; omega, l5, Own.nil _ _ _ _ _, u5⟩, ?_⟩
        rintro ⟨_, t, m, _⟩ h6 ⟨done, left, sl, hm, hn, hsome, hnone, htl, l6, own6, u6⟩
        dsimp only at hm l6 own6 u6 hsome hnone htl
        subst hm
        have u16 : Up h1.size h1 h6 := (u13.up _).trans (u6.mono hz3)
        refine ifB_of (fun hc => ?_) (fun hc => ?_)
        · have hpos : 1 ≤ left := by have := of_decide_eq_true hc; dsimp only at this; omega
          obtain ⟨left', rfl⟩ : ∃ l, left = l + 1 := ⟨left - 1, by omega⟩
          dsimp only
          refine one_spec (by omega) fun h7 u7 => ?_
          cases hro : readOp t with
          | none =>
            have hd : decB s = none := by
              unfold decB
              rw [hhead]
              dsimp only
              rw [hnone (by simp [readOps, hro])]
            refine newP_loc fun h8 u8 z8 l8 => ?_
            refine sts_loc l8 rfl (by simp) fun h9 l9 o9 => ?_
            rw [ifB_of_true (by rfl)]
            refine no hd h9 (u16.trans (Up.trans ((u7.trans u8).up _) (o9.up ?_)))
            have := u16.size; have := u7.size; omega
          | some p =>
            obtain ⟨o, r⟩ := p
            dsimp only
            refine newP_loc fun h8 u8 z8 l8 => ?_
            refine sts_loc l8 rfl (by simp) fun h9 l9 o9 => ?_
            rw [ifB_of_false (by rfl)]
            have u79 : Ext h7 h9 := ((u8.up _).trans (o9.up (Nat.le_refl _))).ext
            have u69 : Ext h6 h9 := u7.trans u79
            refine ld_loc (s := .slice) (x := sl) (l6.ext u69) rfl ?_
            refine lds_loc (l := [.str, .str, .bool]) (o.key, o.val, o.gone, ()) l9 ?_
            dsimp only [unc]
            have hz6 := u6.size
            have hz69 := u69.size
            refine app_one (enc := encO) (x := o) encO_len encO_one rfl rfl (own6.ext u69) (by omega) (by omega) fun s' h10 o10 b10 f10 => ?_
            have l10 : Shal.Loc h3.size 38 [.int .u64 (seq : Int), .slice sl.p sl.len sl.cap] h10 := (l6.ext u69).but b10 ((own6.ext u69).rowne (l6.ext u69) (by decide))
            refine st_loc (s := .slice) l10 (by simp) (by decide) fun h11 l11 o11 => ?_
            rw [wu (by omega) (by omega)]
            have hrd := readOp_some hro
            refine ⟨⟨done ++ [o], left', s', (show ((left' + 1 : Nat) : Int) - 1 = (left' : Int) by omega), by simp; omega, fun os r' he => ?_, fun he => ?_, ?_, l11, o10.only o11 (o10.rowne l10 (by decide)), ?_⟩, ?_⟩
            · rw [hsome (o :: os) r' (by simp only [readOps, hro]; rw [he])]
              simp
            · exact hnone (by simp only [readOps, hro]; rw [he])
            · show r.length ≤ s.length
              have := congrArg List.length hrd.1
              simp only [List.length_append] at this
              omega
            · refine u6.trans (Up.trans (u69.up _) (Up.trans (b10.up own6.low) (o11.up (Nat.le_refl _))))
            · show (((left' + 1 : Nat) : Int) - 1).toNat < (((left' + 1 : Nat) : Int)).toNat
              omega
        · have h0 : left = 0 := by have := of_decide_eq_false hc; dsimp only at this; omega
          subst h0
          have hops := hsome [] t rfl
          rw [List.append_nil] at hops
          have hd : decB s = if t = [] ∧ checkB seq done = 0 then some (seq, done) else none := by
            unfold decB
            rw [hhead]
            dsimp only
            rw [hops]
          refine join_b (decide (¬ (t = [] ∧ checkB seq done = 0))) (fun h' => Ext h6 h') ?_ ?_
          · refine ifB_of (fun ht => ?_) (fun ht => ?_)
            · have : t ≠ [] := by simpa using ht
              exact ⟨by simp [this], Ext.refl _⟩
            · have ht : t = [] := by simpa using ht
              refine lds_loc (l := [.int .u64, .slice]) ((seq : Int), sl, ()) l6 ?_
              refine check_spec r3 (own6.sees encO_len) (by omega) fun h7 u7 => ⟨?_, u7⟩
              cases hz : checkB seq done with
              | zero => simp [ht]
              | succ n => simp; omega
          · intro h7 u7
            refine ifB_of (fun hb => ?_) (fun hb => ?_)
            · rw [if_neg (of_decide_eq_true hb)] at hd
              exact no hd h7 (u16.trans (u7.up _))
            · have hb := of_decide_eq_false hb
              rw [Decidable.not_not] at hb
              rw [if_pos hb] at hd
              refine lds_loc (l := [.int .u64, .slice]) ((seq : Int), sl, ()) (l6.ext u7) ?_
              refine ret h7 _ _ _ (u16.trans (u7.up _)) fun h8 o8 => ?_
              have := hQ h8 (u0 h7 h8 (u16.trans (u7.up _)) o8)
              rw [hd] at this
              have hz1 := u1.size
              exact this sl (((own6.ext u7).only o8 ((own6.ext u7).rowne (l1.ext (u16.trans (u7.up _)).ext) (by decide))).mono (by omega))
end Go.Proofs.W
end
section
set_option maxRecDepth 100000
set_option linter.unusedVariables false
namespace Go.Proofs.W
open Go Go.Shal Go.Proofs Go.M
theorem rdecode_spec {h : Heap} {s : Bytes} {Q : Int → Sl → Bool → PP} (hl : s.length < 4611686018427387904) (hQ : ∀ h', Ext h h' → Got h (decB s) Q h') : ref06_Decode.C s Q h := by
  rw [← decB_eq] at hQ
  apply ref06_Decode.ok
  unfold ref06_Decode.F
  refine newP_loc fun h1 u1 z1 l1 => ?_
  have ret : ∀ (h2 : Heap) (a : Int) (b : Sl) (ok : Bool), Up h1.size h1 h2 → (∀ h', Only h.size h2 h' → Q a b ok h') →
      stsP ⟨h.size, 0, none⟩ [.int .u64, .slice] (a, b, ()) 0 (lds [.int .u64, .slice] ⟨h.size, 0, none⟩ fun (s2 : Int) (s3 : Sl) => Q s2 s3 ok) h2 := by
    intro h2 a b ok u2 hq
    exact ret_loc (l1.ext u2.ext) rfl (by simp) fun h3 o3 => hq h3 o3
  have u0 : ∀ h2 h', Up h1.size h1 h2 → Only h.size h2 h' → Ext h h' := fun h2 h' u2 o => (((u1.trans u2.ext).up h.size).trans (o.up (Nat.le_refl _))).ext
  have no : decB' s = none → ∀ h2, Up h1.size h1 h2 → stsP ⟨h.size, 0, none⟩ [.int .u64, .slice] ((0 : Int), (⟨none, 0, 0⟩ : Sl), ()) 0 (lds [.int .u64, .slice] ⟨h.size, 0, none⟩ fun (s2 : Int) (s3 : Sl) => Q s2 s3 false) h2 := by
    intro hn h2 u2
    refine ret h2 _ _ _ u2 fun h' o => ?_
    have := hQ h' (u0 h2 h' u2 o)
    rw [hn] at this
    exact this
  refine rreadVar_spec hl fun h2 u2 => ?_
  cases hv : readVar s with
  | none => exact no (by unfold decB' readHead; rw [hv]) h2 (u2.up _)
  | some p =>
    obtain ⟨seq, k⟩ := p
    obtain ⟨r1, r2, r3, r4⟩ := readVar_row hv
    dsimp only
    rw [ifB_of_false (by rfl)]
    refine sliceStr_of (a := k) (b := s.length) (t := s.drop k) rfl rfl r2 (Nat.le_refl _) (by rw [List.take_length]) ?_
    refine rreadVar_spec (by rw [List.length_drop]; omega) fun h3 u3 => ?_
    cases hw : readVar (s.drop k) with
    | none =>
      refine joinT_dup ?_
      exact no (by unfold decB' readHead; rw [hv]; dsimp only; rw [hw]) h3 ((u2.trans u3).up _)
    | some p =>
      obtain ⟨n, j⟩ := p
      obtain ⟨s1, s2, s3, s4⟩ := readVar_row hw
      rw [List.length_drop] at s2
      dsimp only
      refine joinT_dup ?_
      rw [ifB_of_false (by rfl)]
      dsimp only
      refine ifB_of (fun hc => ?_) (fun hc => ?_)
      · have hgt := of_decide_eq_true hc
        exact no (by unfold decB' readHead; rw [hv]; dsimp only; rw [hw]; dsimp only; rw [if_neg (by omega)]) h3 ((u2.trans u3).up _)
      · have hle : n ≤ 16 := by have := of_decide_eq_false hc; omega
        have hhead : readHead s = some (seq, n, (s.drop k).drop j) := by unfold readHead; rw [hv]; dsimp only; rw [hw]; dsimp only; rw [if_pos hle]
        refine newP_loc fun h4 u4 z4 l4 => ?_
        refine sts_loc l4 rfl (by simp) fun h5 l5 o5 => ?_
        rw [wi (x := (k : Int) + (j : Int)) (by omega) (by omega)]
        have u13 : Ext h1 h3 := u2.trans u3
        have hz3 := u13.size
        have u5 : Up h3.size h3 h5 := (u4.up _).trans (o5.up (Nat.le_refl _))
        refine ⟨fun _ at_ _ _ i h' => ∃ (done : List OpV) (left at' : Nat) (sl : Sl), at_ = (at' : Int) ∧ i = (done.length : Int) ∧ left + done.length = n ∧ (∀ os r, readOps readOp' left (s.drop at') = some (os, r) → readOps readOp' n ((s.drop k).drop j) = some (done ++ os, r)) ∧ (readOps readOp' left (s.drop at') = none → readOps readOp' n ((s.drop k).drop j) = none) ∧
            at' ≤ s.length ∧ Shal.Loc h3.size 144 [.int .u64 (seq : Int), .slice sl.p sl.len sl.cap] h' ∧ Own h3.size 124 3 encO h' sl done ∧ Up h3.size h3 h', fun _ _ _ _ i _ => n - i.toNat, ⟨[], n, k + j, ⟨none, 0, 0⟩, (show (k : Int) + (j : Int) = ((k + j : Nat) : Int) by omega), rfl, by simp, fun os r he => by rw [List.drop_drop]; exact he, fun he => by rw [List.drop_drop]; exact he, by omega, l5, Own.nil _ _ _ _ _, u5⟩, ?_⟩
        rintro ⟨_, at_, _, _, i, _⟩ h6 ⟨done, left, at', sl, hat, hi, hn, hsome, hnone, hle', l6, own6, u6⟩
        dsimp only at hat hi l6 own6 u6
        subst hat hi
        have u16 : Up h1.size h1 h6 := (u13.up _).trans (u6.mono hz3)
        refine ifB_of (fun hc => ?_) (fun hc => ?_)
        · have hpos : 1 ≤ left := by have := of_decide_eq_true hc; dsimp only at this; omega
          obtain ⟨left', rfl⟩ : ∃ l, left = l + 1 := ⟨left - 1, by omega⟩
          dsimp only
          refine ifB_of (fun hc => ?_) (fun hc => ?_)
          · have : s.length ≤ at' := by have := of_decide_eq_true hc; omega
            have hnil : s.drop at' = [] := List.drop_eq_nil_of_le this
            have hd : decB' s = none := by
              unfold decB'
              rw [hhead]
              dsimp only
              rw [hnone (by rw [hnil]; simp [readOps, readOp'])]
            exact no hd h6 u16
          · have hlt : at' < s.length := by have := of_decide_eq_false hc; omega
            have hdrop : s.drop at' = s[at'] :: s.drop (at' + 1) := List.drop_eq_getElem_cons hlt
            refine atS_of (n := at') rfl (List.getElem?_eq_getElem hlt) ?_
            refine newP_loc fun h8 u8 z8 l8 => ?_
            refine sts_loc l8 rfl (by simp) fun h9 l9 o9 => ?_
            have u69 : Ext h6 h9 := ((u8.up _).trans (o9.up (Nat.le_refl _))).ext
            rw [wi (x := (at' : Int) + 1) (by omega) (by omega)]
            refine sliceStr_of (a := at' + 1) (b := s.length) (t := s.drop (at' + 1)) (by omega) rfl (by omega) (Nat.le_refl _) (by rw [List.take_length]) ?_
            refine rreadText_spec (most := 64) (by omega) (by rw [List.length_drop]; omega) fun h10 u10 => ?_
            have hz6 := u6.size
            have hz69 := u69.size
            have hz10 := u10.size
            have hb9 : h3.size ≤ h6.size := hz6
            cases h1t : readText (s.drop (at' + 1)) 64 with
            | none =>
              have hro : readOp' (s.drop at') = none := by rw [hdrop]; simp only [readOp']; rw [h1t]
              have hd : decB' s = none := by
                unfold decB'
                rw [hhead]
                dsimp only
                rw [hnone (by simp [readOps, hro])]
              dsimp only
              refine st_loc (s := .str) (l9.ext u10) (by simp [injs]) (by decide) fun h11 l11 o11 => ?_
              rw [ifB_of_true (by rfl)]
              refine no hd h11 (u16.trans (Up.trans ((u69.trans u10).up _) (o11.up ?_)))
              have := u16.size; omega
            | some p =>
              obtain ⟨key, kk⟩ := p
              have hkk := readText_bnd h1t
              rw [List.length_drop] at hkk
              dsimp only
              refine st_loc (s := .str) (l9.ext u10) (by simp [injs]) (by decide) fun h11 l11 o11 => ?_
              rw [ifB_of_false (by rfl)]
              have u611 : Up h6.size h6 h11 := ((u69.trans u10).up _).trans (o11.up (Nat.le_refl _))
              have hz11 := u611.size
              have ec : (((s[at'].toNat : Nat) : Int) == (1 : Int)) = decide (s[at'] = 1) := by
                rw [Bool.eq_iff_iff]
                simp only [beq_iff_eq, decide_eq_true_eq]
                constructor
                · intro he
                  apply UInt8.toNat_inj.1
                  show s[at'].toNat = 1
                  omega
                · intro he; rw [he]; rfl
              rw [ec] at l11
              refine ⟨fun _ _ _ at2 h' => ∃ (o : OpV) (a2 : Nat), at2 = (a2 : Int) ∧ readOp' (s.drop at') = some (o, s.drop a2) ∧ a2 ≤ s.length ∧ Shal.Loc h6.size 124 (encO o) h' ∧ Up h6.size h6 h', ?_, ?_⟩
              · refine ld_loc (s := .bool) (x := decide (s[at'] = 1)) l11 rfl ?_
                rw [wi (x := (at' : Int) + 1 + (kk : Int)) (by omega) (by omega)]
                by_cases h1 : s[at'] = 1
                · rw [ifB_of_false (by simp [h1])]
                  refine ⟨⟨key, [], true⟩, at' + 1 + kk, (show (at' : Int) + 1 + (kk : Int) = ((at' + 1 + kk : Nat) : Int) by omega), ?_, by omega, ?_, u611⟩
                  · rw [hdrop]
                    simp only [readOp']
                    rw [h1t]
                    dsimp only
                    rw [if_pos h1, List.drop_drop]
                  · rw [show decide (s[at'] = 1) = true by simp [h1]] at l11
                    exact l11
                · rw [ifB_of_true (by simp [h1])]
                  refine sliceStr_of (a := at' + 1 + kk) (b := s.length) (t := s.drop (at' + 1 + kk)) (by omega) rfl (by omega) (Nat.le_refl _) (by rw [List.take_length]) ?_
                  refine rreadText_spec (most := 512) (by omega) (by rw [List.length_drop]; omega) fun h12 u12 => ?_
                  have hz12 := u12.size
                  cases h2t : readText (s.drop (at' + 1 + kk)) 512 with
                  | none =>
                    have hro : readOp' (s.drop at') = none := by
                      rw [hdrop]
                      simp only [readOp']
                      rw [h1t]
                      dsimp only
                      rw [if_neg h1, List.drop_drop, h2t]
                    have hd : decB' s = none := by
                      unfold decB'
                      rw [hhead]
                      dsimp only
                      rw [hnone (by simp [readOps, hro])]
                    dsimp only
                    refine st_loc (s := .str) (l11.ext u12) (by simp [injs]) (by decide) fun h13 l13 o13 => ?_
                    rw [ifB_of_true (by rfl)]
                    refine no hd h13 (u16.trans ((u611.mono u16.size).trans (Up.trans (u12.up _) (o13.up ?_))))
                    have := u16.size; omega
                  | some q =>
                    obtain ⟨val, jj⟩ := q
                    have hjj := readText_bnd h2t
                    rw [List.length_drop] at hjj
                    dsimp only
                    refine st_loc (s := .str) (l11.ext u12) (by simp [injs]) (by decide) fun h13 l13 o13 => ?_
                    rw [ifB_of_false (by rfl), wi (by omega) (by omega)]
                    refine ⟨⟨key, val, false⟩, at' + 1 + kk + jj, (show (at' : Int) + 1 + (kk : Int) + (jj : Int) = ((at' + 1 + kk + jj : Nat) : Int) by omega), ?_, by omega, ?_, u611.trans ((u12.up _).trans (o13.up (Nat.le_refl _)))⟩
                    · rw [hdrop]
                      simp only [readOp']
                      rw [h1t]
                      dsimp only
                      rw [if_neg h1, List.drop_drop, h2t]
                      dsimp only
                      rw [List.drop_drop]
                    · rw [show decide (s[at'] = 1) = false by simp [h1]] at l13
                      exact l13
              · rintro ⟨_, _, _, at2, _⟩ h12 ⟨o, a2, hat2, hro, hle2, l12, u12⟩
                dsimp only at hat2 l12 u12
                subst hat2
                dsimp only [unc]
                have hz12 := u12.size
                refine ld_loc (s := .slice) (x := sl) (l6.ext u12.ext) rfl ?_
                refine lds_loc (l := [.str, .str, .bool]) (o.key, o.val, o.gone, ()) l12 ?_
                dsimp only [unc]
                refine app_one (enc := encO) (x := o) encO_len encO_one rfl rfl (own6.ext u12.ext) (by omega) (by omega) fun s' h13 o13 b13 f13 => ?_
                have l13 : Shal.Loc h3.size 144 [.int .u64 (seq : Int), .slice sl.p sl.len sl.cap] h13 := (l6.ext u12.ext).but b13 ((own6.ext u12.ext).rowne (l6.ext u12.ext) (by decide))
                refine st_loc (s := .slice) l13 (by simp) (by decide) fun h14 l14 o14 => ?_
                rw [wu (by omega) (by omega)]
                refine ⟨⟨done ++ [o], left', a2, s', rfl, (show ((done.length : Nat) : Int) + 1 = ((done ++ [o]).length : Int) by simp), by simp; omega, fun os r' he => ?_, fun he => ?_, hle2, l14, o13.only o14 (o13.rowne l13 (by decide)), ?_⟩, ?_⟩
                · rw [hsome (o :: os) r' (by simp only [readOps, hro]; rw [he])]
                  simp
                · exact hnone (by simp only [readOps, hro]; rw [he])
                · exact u6.trans (Up.trans (u12.mono hz6) (Up.trans (b13.up own6.low) (o14.up (Nat.le_refl _))))
                · show n - (((done.length : Nat) : Int) + 1).toNat < n - (((done.length : Nat) : Int)).toNat
                  omega
        · have h0 : left = 0 := by have := of_decide_eq_false hc; dsimp only at this; omega
          subst h0
          have hops := hsome [] (s.drop at') rfl
          rw [List.append_nil] at hops
          have hd : decB' s = if checkB seq done = 0 ∧ batB seq done = s then some (seq, done) else none := by
            unfold decB'
            rw [hhead]
            dsimp only
            rw [hops]
          refine lds_loc (l := [.int .u64, .slice]) ((seq : Int), sl, ()) l6 ?_
          refine rencode_spec r3 (own6.sees encO_len) (by omega) fun h7 u7 => ?_
          have fin : ∀ (t : Bytes) (e : Nat), (decide (e ≠ 0) || !(t == s)) = decide (¬ (checkB seq done = 0 ∧ batB seq done = s)) →
              joinT [.bool] (fun M => ifB ((e : Int) != 0) (M true) (M (!(t == s)))) (fun (b57 : Bool) =>
                ifB b57 (
                  stsP ⟨h.size, 0, none⟩ [.int .u64, .slice] ((0 : Int), (⟨(none : Option Addr), 0, 0⟩ : Sl), ()) 0 (
                    lds [.int .u64, .slice] ⟨h.size, 0, none⟩ fun (n58 : Int) (l59 : Sl) =>
                    Q n58 l59 false)) (
                  lds [.int .u64, .slice] ⟨h3.size, 0, none⟩ fun (n60 : Int) (l61 : Sl) =>
                  stsP ⟨h.size, 0, none⟩ [.int .u64, .slice] (n60, l61, ()) 0 (
                    lds [.int .u64, .slice] ⟨h.size, 0, none⟩ fun (n62 : Int) (l63 : Sl) =>
                    Q n62 l63 true))) h7 := by
            intro t e hte
            refine join_b (decide (¬ (checkB seq done = 0 ∧ batB seq done = s))) (fun h' => h' = h7) ?_ ?_
            · rw [← hte]
              refine ifB_of (fun hb => ?_) (fun hb => ?_)
              · have : e ≠ 0 := by rintro rfl; simp at hb
                exact ⟨by simp [this], rfl⟩
              · have : e = 0 := by have : (e : Int) = 0 := by simpa using hb
                                   omega
                exact ⟨by simp [this], rfl⟩
            · rintro h7 rfl
              refine ifB_of (fun hb => ?_) (fun hb => ?_)
              · rw [if_neg (of_decide_eq_true hb)] at hd
                exact no hd h7 (u16.trans (u7.up _))
              · have hb := of_decide_eq_false hb
                rw [Decidable.not_not] at hb
                rw [if_pos hb] at hd
                refine lds_loc (l := [.int .u64, .slice]) ((seq : Int), sl, ()) (l6.ext u7) ?_
                refine ret h7 _ _ _ (u16.trans (u7.up _)) fun h8 o8 => ?_
                have := hQ h8 (u0 h7 h8 (u16.trans (u7.up _)) o8)
                rw [hd] at this
                have hz1 := u1.size
                exact this sl (((own6.ext u7).only o8 ((own6.ext u7).rowne (l1.ext (u16.trans (u7.up _)).ext) (by decide))).mono (by omega))
          by_cases hc0 : checkB seq done = 0
          · rw [if_pos hc0]
            refine fin (batB seq done) 0 ?_
            by_cases hb : batB seq done = s <;> simp [hc0, hb]
          · rw [if_neg hc0]
            refine fin [] (checkB seq done) ?_
            simp [hc0]
end Go.Proofs.W
end
section
set_option maxRecDepth 100000
set_option linter.unusedVariables false
namespace Go.Proofs.W
open Go Go.Shal Go.Proofs Go.M
theorem bs_toList (a b : Bytes) : ((bs a).toList == (bs b).toList) = (a == b) := by
  rw [ByteArray.toList_eq, ByteArray.toList_eq]
  rfl
theorem bs_ne (a b : Bytes) : (bs a).toList = (bs b).toList ↔ a = b := by
  have := bs_toList a b
  rw [Bool.eq_iff_iff] at this
  simpa using this
theorem op_eq (x y : OpV) : SEq Tryz.prog 124 (.agg #[.string (bs x.key), .string (bs x.val), .bool x.gone]) (.agg #[.string (bs y.key), .string (bs y.val), .bool y.gone]) (decide (x = y)) := by
  refine ⟨⟨_, _, rfl, rfl⟩, fun w op a b => run_eqGuard_agg w op 124 a b _ _ (by kernel_rfl), fun w => ?_⟩
  have hS : Tryz.prog.underlying 124 = some (.struct (Tryz.prog.fieldsOf 124)) := by kernel_rfl
  have hp : Tryz.prog.stoodInHeld 124 = false := by kernel_rfl
  have u9 := Tryz.underlying9
  have u4 := Tryz.underlying4
  unfold Op.equal Op.maxDepth
  rw [show (10000 : Nat) = 9999 + 1 from rfl, run_equalIn_agg w 9999 124 _ _ hS hp]
  simp only [Program.fieldsOf, Tryz.underlying124]
  go_simp
  obtain ⟨xk, xv, xg⟩ := x
  obtain ⟨yk, yv, yg⟩ := y
  simp only [OpV.mk.injEq]
  by_cases h1 : xk = yk <;> by_cases h2 : xv = yv <;> by_cases h3 : xg = yg <;> simp [bs_ne, h1, h2, h3]
theorem given_spec {h : Heap} {seq : Int} {s : Sl} {Q : Int → Sl → PP} (hQ : ∀ h', Ext h h' → Q seq s h') : law06_Given.C seq s Q h := by
  apply law06_Given.ok
  unfold law06_Given.F
  refine newP_loc fun h1 u1 z1 l1 => newP_loc fun h2 u2 z2 l2 => ?_
  refine ld_loc (s := .int .u64) (x := seq) (l1.ext u2) rfl ?_
  refine ld_loc (s := .slice) (x := s) (l1.ext u2) rfl ?_
  refine ret_loc l2 rfl (by simp) fun h3 o3 => hQ h3 ?_
  exact (u1.trans ((u2.up _).trans (o3.up (Nat.le_refl _))).ext)
theorem bsame_spec {h : Heap} {n m : Nat} {s t : Sl} {xs ys : List OpV} {Q : Bool → PP} (hs : Sees 3 encO h s xs) (ht : Sees 3 encO h t ys) (hl : xs.length < 4611686018427387904)
    (hQ : ∀ h', Ext h h' → Q (decide (n = m ∧ xs = ys)) h') : ref06_Same.C (n : Int) s (m : Int) t Q h := by
  apply ref06_Same.ok
  unfold ref06_Same.F
  have hlen := hs.len
  have hlen' := ht.len
  refine newP_loc fun h1 u1 z1 l1 => newP_loc fun h2 u2 z2 l2 => ?_
  have l1 := l1.ext u2
  have u02 := u1.trans u2
  have hq := hQ h2 u02
  refine join_b (decide (¬ (n = m ∧ xs.length = ys.length))) (fun h' => h' = h2) ?_ ?_
  · refine ld_loc (s := .int .u64) (x := (n : Int)) l1 rfl ?_
    refine ld_loc (s := .int .u64) (x := (m : Int)) l2 rfl ?_
    refine ifB_of (fun hc => ?_) (fun hc => ?_)
    · have : n ≠ m := by rintro rfl; simp at hc
      exact ⟨by simp [this], rfl⟩
    · have : n = m := by have : (n : Int) = m := by simpa using hc
                         omega
      refine ld_loc (s := .slice) (x := s) l1 rfl ?_
      refine ld_loc (s := .slice) (x := t) l2 rfl ⟨?_, rfl⟩
      rw [Bool.eq_iff_iff]
      simp only [bne_iff_ne, decide_eq_true_eq, this, true_and]
      omega
  · rintro h2 rfl
    refine ifB_of (fun hc => ?_) (fun hc => ?_)
    · have hc := of_decide_eq_true hc
      have : ¬ (n = m ∧ xs = ys) := fun hh => hc ⟨hh.1, by rw [hh.2]⟩
      rw [show decide (n = m ∧ xs = ys) = false by simpa using this] at hq
      exact hq
    · have hc := of_decide_eq_false hc
      rw [Decidable.not_not] at hc
      obtain ⟨rfl, hlx⟩ := hc
      refine ⟨fun _ i h' => ∃ k : Nat, k ≤ xs.length ∧ i = (k : Int) ∧ xs.take k = ys.take k ∧ h' = h2, fun _ i _ => xs.length - i.toNat, ⟨0, by omega, rfl, by simp, rfl⟩, ?_⟩
      rintro ⟨_, i, _⟩ h3 ⟨k, hk, hi, he, hu⟩
      dsimp only at hi he hu
      subst hi hu
      refine ld_loc (s := .slice) (x := s) l1 rfl ?_
      refine ifB_of (fun hc => ?_) (fun hc => ?_)
      · have hk1 : k < xs.length := by have := of_decide_eq_true hc; dsimp only at this; omega
        have hk2 : k < ys.length := by omega
        dsimp only
        refine draw_ext ?_
        refine ldG_ext (s := .slice) (x := s) (l1.cell (n := 1) rfl) ?_
        refine Sees.idx encO_len (hs.ext u02) rfl (List.getElem?_eq_getElem hk1) fun a ha => ?_
        refine ldsG_ext (l := [.str, .str, .bool]) (xs[k].key, xs[k].val, xs[k].gone, ()) ha ?_
        dsimp only [unc]
        refine ldG_ext (s := .slice) (x := t) (l2.cell (n := 1) rfl) ?_
        refine Sees.idx encO_len (ht.ext u02) rfl (List.getElem?_eq_getElem hk2) fun a ha => ?_
        refine ldsG_ext (l := [.str, .str, .bool]) (ys[k].key, ys[k].val, ys[k].gone, ()) ha ?_
        dsimp only [unc]
        refine ⟨_, op_eq xs[k] ys[k], ?_⟩
        refine ifB_of (fun hb => ?_) (fun hb => ?_)
        · have hne : xs[k] ≠ ys[k] := by simpa using hb
          have : ¬ (n = n ∧ xs = ys) := by
            rintro ⟨_, rfl⟩
            exact hne rfl
          rw [show decide (n = n ∧ xs = ys) = false by simpa using this] at hq
          exact hq
        · have heq : xs[k] = ys[k] := by simpa using hb
          rw [wi (by omega) (by omega)]
          refine ⟨⟨k + 1, by omega, rfl, ?_, rfl⟩, by dsimp only [unc]; omega⟩
          rw [List.take_succ_eq_append_getElem hk1, List.take_succ_eq_append_getElem hk2, he, heq]
      · have hk1 : k = xs.length := by have := of_decide_eq_false hc; dsimp only at this; omega
        subst hk1
        rw [List.take_length, hlx, List.take_length] at he
        rw [show decide (n = n ∧ xs = ys) = true by simpa using he] at hq
        exact hq
/-- Batches in a row: the lists behind their slices. -/
abbrev encBt (b : Nat × Sl) : List Value := [.int .u64 (b.1 : Int), .slice b.2.p b.2.len b.2.cap]
theorem encBt_len (b : Nat × Sl) : (encBt b).length = 2 := rfl
theorem encBt_one (b : Nat × Sl) : ∀ v ∈ encBt b, v.oneCell' = true := by
  intro v hv
  simp at hv
  rcases hv with rfl | rfl <;> rfl
/-- A row of batches. -/
structure Bats (h : Heap) (s : Sl) (bss : List (Nat × List OpV)) (raw : List (Nat × Sl)) : Prop where
  sees : Sees 2 encBt h s raw
  len : raw.length = bss.length
  each : ∀ (i : Nat) (r : Nat × Sl) (b : Nat × List OpV), raw[i]? = some r → bss[i]? = some b → r.1 = b.1 ∧ Sees 3 encO h r.2 b.2 ∧ b.2.length < 4611686018427387904
theorem Bats.ext {h h' : Heap} {s : Sl} {bss : List (Nat × List OpV)} {raw : List (Nat × Sl)} (b : Bats h s bss raw) (u : Ext h h') : Bats h' s bss raw :=
  ⟨b.sees.ext u, b.len, fun i r x hr hx => let ⟨h1, h2, h3⟩ := b.each i r x hr hx; ⟨h1, h2.ext u, h3⟩⟩
theorem lsame_spec {h : Heap} {s t : Sl} {xs ys : List (Nat × List OpV)} {r1 r2 : List (Nat × Sl)} {Q : Bool → PP} (hs : Bats h s xs r1) (ht : Bats h t ys r2) (hl : xs.length < 4611686018427387904)
    (hQ : ∀ h', Ext h h' → Q (decide (xs = ys)) h') : law07_Same.C s t Q h := by
  apply law07_Same.ok
  unfold law07_Same.F
  have e1 := hs.sees.len
  have e2 := ht.sees.len
  have e3 := hs.len
  have e4 := ht.len
  refine ifB_of (fun hc => ?_) (fun hc => ?_)
  · have hne : s.len ≠ t.len := by intro he; rw [he] at hc; simp at hc
    have hq := hQ h (Ext.refl _)
    rw [show decide (xs = ys) = false by
      rw [decide_eq_false_iff_not]
      rintro rfl
      omega] at hq
    exact hq
  · have heq : s.len = t.len := by have : (s.len : Int) = t.len := by simpa using hc
                                   omega
    refine ⟨fun _ i h' => ∃ k : Nat, k ≤ xs.length ∧ i = (k : Int) ∧ xs.take k = ys.take k ∧ Ext h h', fun _ i _ => xs.length - i.toNat, ⟨0, by omega, rfl, by simp, Ext.refl _⟩, ?_⟩
    rintro ⟨_, i, _⟩ h3 ⟨k, hk, hi, he, hu⟩
    dsimp only at hi he hu
    subst hi
    refine ifB_of (fun hc => ?_) (fun hc => ?_)
    · have hk1 : k < xs.length := by have := of_decide_eq_true hc; dsimp only at this; omega
      have hk2 : k < ys.length := by omega
      have hkr1 : k < r1.length := by omega
      have hkr2 : k < r2.length := by omega
      have s3 := hs.ext hu
      have t3 := ht.ext hu
      obtain ⟨a1, a2, a3⟩ := s3.each k _ _ (List.getElem?_eq_getElem hkr1) (List.getElem?_eq_getElem hk1)
      obtain ⟨b1, b2, b3⟩ := t3.each k _ _ (List.getElem?_eq_getElem hkr2) (List.getElem?_eq_getElem hk2)
      dsimp only
      refine draw_ext ?_
      refine Sees.idx encBt_len s3.sees rfl (List.getElem?_eq_getElem hkr1) fun a ha => ?_
      refine ldsG_ext (l := [.int .u64, .slice]) ((r1[k].1 : Int), r1[k].2, ()) ha ?_
      dsimp only [unc]
      refine Sees.idx encBt_len t3.sees rfl (List.getElem?_eq_getElem hkr2) fun a ha => ?_
      refine ldsG_ext (l := [.int .u64, .slice]) ((r2[k].1 : Int), r2[k].2, ()) ha ?_
      dsimp only [unc]
      refine given_spec fun h4 u4 => with_ext u4 ?_
      refine bsame_spec (a2.ext u4) (b2.ext u4) a3 fun h5 u5 => with_ext (u4.trans u5) ?_
      refine ifB_of (fun hb => ?_) (fun hb => ?_)
      · have hne : xs[k] ≠ ys[k] := by
          intro hh
          have : r1[k].1 = r2[k].1 ∧ xs[k].2 = ys[k].2 := ⟨by rw [a1, b1, hh], by rw [hh]⟩
          simp [this] at hb
        have hq := hQ h5 (hu.trans (u4.trans u5))
        rw [show decide (xs = ys) = false by
          rw [decide_eq_false_iff_not]
          rintro rfl
          exact hne rfl] at hq
        exact hq
      · have : r1[k].1 = r2[k].1 ∧ xs[k].2 = ys[k].2 := by simpa using hb
        have heq : xs[k] = ys[k] := Prod.ext (by rw [← a1, ← b1]; exact this.1) this.2
        rw [wi (by omega) (by omega)]
        refine ⟨⟨k + 1, by omega, rfl, ?_, hu.trans (u4.trans u5)⟩, by dsimp only [unc]; omega⟩
        rw [List.take_succ_eq_append_getElem hk1, List.take_succ_eq_append_getElem hk2, he, heq]
    · have hk1 : k = xs.length := by have := of_decide_eq_false hc; dsimp only at this; omega
      subst hk1
      rw [List.take_length, show xs.length = ys.length by omega, List.take_length] at he
      have hq := hQ h3 hu
      rw [show decide (xs = ys) = true by simpa using he] at hq
      exact hq
/-- No greater than statements go through. -/
def smallBt (ops : List OpV) : Prop := ops.length ≤ 60 ∧ (∀ o ∈ ops, o.key.length ≤ 12000 ∧ o.val.length ≤ 12000)
theorem bgreat_spec {h : Heap} {seq : Int} {s : Sl} {ops : List OpV} {Q : Bool → PP} (hs : Sees 3 encO h s ops)
    (hQ : ∀ b h', Ext h h' → (b = false → smallBt ops) → Q b h') : law06_Great.C seq s Q h := by
  apply law06_Great.ok
  unfold law06_Great.F
  have hlen := hs.len
  refine newP_loc fun h1 u1 z1 l1 => ?_
  refine ld_loc (s := .slice) (x := s) l1 rfl ?_
  refine ifB_of (fun hc => ?_) (fun hc => ?_)
  · exact hQ _ _ u1 (by simp)
  · have h60 : ops.length ≤ 60 := by have := of_decide_eq_false hc; omega
    refine ⟨fun _ n i h' => ∃ k m : Nat, k ≤ ops.length ∧ i = (k : Int) ∧ n = (m : Int) ∧ m ≤ 24000 * k ∧ (∀ o ∈ ops.take k, o.key.length ≤ 12000 ∧ o.val.length ≤ 12000) ∧ h' = h1, fun _ _ i _ => ops.length - i.toNat, ⟨0, 0, by omega, rfl, rfl, by omega, by simp, rfl⟩, ?_⟩
    rintro ⟨_, n, i, _⟩ h2 ⟨k, m, hk, hi, hn, hm, hall, hu⟩
    dsimp only at hi hn hall hu
    subst hi hn hu
    refine ld_loc (s := .slice) (x := s) l1 rfl ?_
    refine ifB_of (fun hc => ?_) (fun hc => ?_)
    · have hk1 : k < ops.length := by have := of_decide_eq_true hc; dsimp only at this; omega
      refine join_b (decide (¬ (ops[k].key.length ≤ 12000 ∧ ops[k].val.length ≤ 12000))) (fun h' => h' = h2) ?_ ?_
      · dsimp only
        refine ld_loc (s := .slice) (x := s) l1 rfl ?_
        refine Sees.idx encO_len (hs.ext u1) rfl (List.getElem?_eq_getElem hk1) fun a ha => ?_
        refine ld_of (s := .str) (x := ops[k].key) (ha 0 _ rfl) ?_
        refine ifB_of (fun hb => ?_) (fun hb => ?_)
        · have := of_decide_eq_true hb
          exact ⟨by simp; omega, rfl⟩
        · have := of_decide_eq_false hb
          refine ld_loc (s := .slice) (x := s) l1 rfl ?_
          refine Sees.idx encO_len (hs.ext u1) rfl (List.getElem?_eq_getElem hk1) fun a ha => ?_
          refine ld_of (s := .str) (x := ops[k].val) (ha 1 _ rfl) ⟨?_, rfl⟩
          rw [decide_eq_decide]
          omega
      · rintro h2 rfl
        refine ifB_of (fun hb => ?_) (fun hb => ?_)
        · exact hQ _ _ u1 (by simp)
        · have hb := of_decide_eq_false hb
          rw [Decidable.not_not] at hb
          dsimp only
          refine draw_ext ?_
          refine ldG_ext (s := .slice) (x := s) (l1.cell (n := 1) rfl) ?_
          refine Sees.idx encO_len (hs.ext u1) rfl (List.getElem?_eq_getElem hk1) fun a ha => ?_
          refine ldG_ext (s := .str) (x := ops[k].key) (ha 0 _ rfl) ?_
          refine ldG_ext (s := .slice) (x := s) (l1.cell (n := 1) rfl) ?_
          refine Sees.idx encO_len (hs.ext u1) rfl (List.getElem?_eq_getElem hk1) fun a ha => ?_
          refine ldG_ext (s := .str) (x := ops[k].val) (ha 1 _ rfl) ?_
          rw [wi (x := (m : Int) + (ops[k].key.length : Int)) (by omega) (by omega), wi (by omega) (by omega), wi (by omega) (by omega)]
          refine ⟨⟨k + 1, m + ops[k].key.length + ops[k].val.length, by omega, rfl, rfl, by omega, ?_, rfl⟩, by dsimp only [unc]; omega⟩
          intro o ho
          rw [List.take_succ_eq_append_getElem hk1, List.mem_append] at ho
          rcases ho with ho | ho
          · exact hall o ho
          · simp at ho
            subst ho
            exact hb
    · have hk1 : k = ops.length := by have := of_decide_eq_false hc; dsimp only at this; omega
      subst hk1
      rw [List.take_length] at hall
      exact hQ _ _ u1 fun _ => ⟨h60, hall⟩
end Go.Proofs.W
end
