/- Layer 7: the document's logs. Layer 7: the document's replay and retiring. The laws' own functions: acts of a disk; does it stand as the document's? -/
import Derived.Test.YtemfgkhholobgaaGreatDoorTA
section
set_option maxRecDepth 100000
set_option linter.unusedVariables false
namespace Go.Proofs.W
open Go Go.Shal Go.Proofs Go.M
theorem rbegin_spec {B w n : Nat} {A : DiskA} {h : Heap} {Q : Int → PP} (P : RD B w A h) (hB : B ≤ h.size) (hn : n < 18446744073709551616) (hnow : A.now.length ≤ 1000000) (h1 : A.files.length < 1000000000) (h2 : A.chgs.length < 1000000000)
    (hQ : ∀ h', RD B w (A.begin n).2 h' → Keep B MR h h' → Q ((A.begin n).1 : Int) h') : ref07_Begin.C (some ⟨w, 0, none⟩) (n : Int) Q h := by
  apply ref07_Begin.ok
  unfold ref07_Begin.F
  refine rname_spec (word := logW) hn (by show 3 ≤ 1000; omega) fun h3 u3 => ?_
  have hz3 := u3.size
  have hpl := pad_len hn
  have hnl : (nameB logW n).length ≤ 1000 := by
    show (logW ++ [46] ++ pad n).length ≤ _
    simp only [List.length_append]
    show 3 + 1 + (pad n).length ≤ _
    omega
  rw [begin_eq] at hQ
  refine rcreate_spec (P.ext u3) (by omega) (by omega) (by omega) h1 h2 fun h4 P4 k4 => ?_
  generalize A.create (nameB logW n) = r at P4 hQ
  obtain ⟨e, A4⟩ := r
  dsimp only at P4 hQ ⊢
  have k04 : Keep B MR h h4 := (u3.keep _ _).trans k4
  have hz4 := k4.size
  refine ifB_of (fun hc => ?_) (fun hc => ?_)
  · have he : e = 0 := by have : (e : Int) = 0 := by simpa using hc
                          omega
    rw [if_pos he] at hQ
    exact rdirSync_spec P4 (by omega) fun h5 P5 k5 => hQ h5 P5 (k04.trans k5)
  · have he : ¬ e = 0 := by intro h0; rw [h0] at hc; simp at hc
    rw [if_neg he] at hQ
    exact hQ h4 P4 k04
theorem radd_spec {B w n seq : Nat} {A : DiskA} {s : Sl} {ops : List OpV} {h : Heap} {Q : Int → PP} (P : RD B w A h) (hB : B ≤ h.size) (hn : n < 18446744073709551616) (hs : Sees 3 encO h s ops) (hol : ops.length < 4611686018427387904) (hseq : seq < 18446744073709551616) (hnow : A.now.length ≤ 1000000)
    (hQ : ∀ h', RD B w (A.add n seq ops).2 h' → Keep B MR h h' → Q ((A.add n seq ops).1 : Int) h') : ref07_Add.C (some ⟨w, 0, none⟩) (n : Int) (seq : Int) s Q h := by
  apply ref07_Add.ok
  unfold ref07_Add.F
  refine newP_loc fun h1 u1 z1 l1 => ?_
  refine lds_loc (l := [.int .u64, .slice]) ((seq : Int), s, ()) l1 ?_
  dsimp only [unc]
  unfold DiskA.add at hQ
  refine rencode_spec hseq (hs.ext u1) hol fun h2 u2 => ?_
  have u02 := u1.trans u2
  by_cases hck : checkB seq ops = 0
  · rw [if_pos hck] at hQ ⊢
    rw [ifB_of_false (by rfl)]
    have hbl := batB_len hseq hck
    generalize batB seq ops = r at hQ hbl ⊢
    refine rname_spec (word := logW) hn (by show 3 ≤ 1000; omega) fun h3 u3 => ?_
    refine rframe_spec (by omega) fun h4 u4 => ?_
    have u04 := (u02.trans u3).trans u4
    have hfl := frm_le_len hbl
    generalize frm 0 r = data at hQ hfl ⊢
    unfold DiskA.app2 at hQ
    have hz := u04.size
    refine rappend_spec (P.ext u04) (by omega) (by omega) fun h5 P5 k5 => ?_
    have k05 : Keep B MR h h5 := (u04.keep _ _).trans k5
    have hnow5 : (A.append (nameB logW n) data).2.now.length ≤ 1000000 := by
      have : (A.append (nameB logW n) data).2.now = A.now := by
        unfold DiskA.append
        split
        · rfl
        · split
          · rfl
          · split
            · rfl
            · unfold DiskA.op
              split
              · exact burn_now A
              · exact burn_now A
      rw [this]
      exact hnow
    generalize A.append (nameB logW n) data = t at P5 hQ hnow5 ⊢
    obtain ⟨e5, A5⟩ := t
    dsimp only at P5 hQ hnow5 ⊢
    refine ifB_of (fun hc => ?_) (fun hc => ?_)
    · have he : e5 = 0 := by have : (e5 : Int) = 0 := by simpa using hc
                             omega
      rw [if_pos he] at hQ
      refine rname_spec (word := logW) hn (by show 3 ≤ 1000; omega) fun h6 u6 => ?_
      refine rsync_spec (P5.ext u6) (by omega) fun h7 P7 k7 => ?_
      exact hQ h7 P7 ((k05.trans (u6.keep _ _)).trans k7)
    · have he : ¬ e5 = 0 := by intro h0; rw [h0] at hc; simp at hc
      rw [if_neg he] at hQ
      exact hQ h5 P5 k05
  · rw [if_neg hck] at hQ ⊢
    rw [ifB_of_true (by simpa using hck)]
    exact hQ h2 (P.ext u02) (u02.keep _ _)
/-! ### Which there are -/
theorem own_cap {B : Nat} {h : Heap} {s : Sl} {xs : List Nat} (ho : Own B 30 1 enc64 h s xs) : xs.length ≤ s.cap := by
  have hr := ho.row
  cases hp : s.p with
  | none => rw [hp] at hr; rw [hr.1]; simp
  | some a => rw [hp] at hr; obtain ⟨_, _, _, cs, _, _, h6, _⟩ := hr; exact h6
theorem cellsAt_part {h : Heap} {p : Option Addr} {n lo m : Nat} {l : List Value} (hc : cellsAt h p n l) (hm : lo + m ≤ n) : cellsAt h (p.map (·.add lo)) m ((l.drop lo).take m) := by
  cases p with
  | none =>
    have : l = [] := hc
    subst this
    simp [cellsAt]
  | some a =>
    refine ⟨by rw [List.length_take, List.length_drop, hc.1]; omega, fun j v hj => ?_⟩
    rw [List.getElem?_take] at hj
    split at hj
    · rw [List.getElem?_drop] at hj
      show hcell h ((a.add lo).add j) = _
      rw [add_add]
      exact hc.2 _ v hj
    · cases hj
theorem slice_sub {B lo hi : Nat} {h : Heap} {s : Sl} {xs : List Nat} {x y : Int} {K : Option Addr → Nat → Nat → PP} (ho : Own B 30 1 enc64 h s xs) (hx : x = (lo : Int)) (hy : y = (hi : Int)) (h1 : lo ≤ hi) (h2 : hi ≤ xs.length)
    (hK : ∀ t : Sl, Sees 1 enc64 h t ((xs.drop lo).take (hi - lo)) → K t.p t.len t.cap h) : sliceSl 1 s.p s.cap x y (s.cap : Int) K h := by
  subst hx hy
  have hcap := own_cap ho
  have hc := ho.cells (enc := enc64) (k := 1) (fun _ => rfl)
  have hlen := ho.len
  refine ⟨⟨by omega, by omega, by omega, by omega⟩, ?_⟩
  have hml : ((xs.drop lo).take (hi - lo)).length = hi - lo := by rw [List.length_take, List.length_drop]; omega
  have he : ((xs.drop lo).take (hi - lo)).flatMap enc64 = ((xs.flatMap enc64).drop lo).take (hi - lo) := by
    unfold enc64
    rw [flat_single, flat_single, List.map_take, List.map_drop]
  have hnone : s.p = none → (xs.drop lo).take (hi - lo) = [] := fun hpn => by
    have hr := ho.row
    rw [hpn] at hr
    rw [hr.1]
    simp
  by_cases hml' : (s.cap : Int) = (lo : Int)
  · rw [if_pos hml']
    refine hK ⟨s.p, hi - lo, s.cap - lo⟩ ⟨hml.symm, ?_, hnone⟩
    rw [he]
    show cellsAt h s.p ((hi - lo) * 1) _
    have hz : hi - lo = 0 := by omega
    rw [hz, List.take_zero]
    cases s.p with
    | none => exact rfl
    | some a => exact ⟨rfl, fun j v hj => by simp at hj⟩
  · rw [if_neg hml']
    refine hK ⟨s.p.map (·.add ((lo : Int).toNat * 1)), hi - lo, s.cap - lo⟩ ⟨hml.symm, ?_, fun hp => hnone (by simpa using hp)⟩
    rw [he]
    show cellsAt h (s.p.map (·.add ((lo : Int).toNat * 1))) ((hi - lo) * 1) _
    rw [Nat.mul_one, Int.toNat_natCast, Nat.mul_one]
    exact cellsAt_part (lo := lo) (m := hi - lo) hc (by rw [hlen]; omega)
theorem rlogs_spec {B w : Nat} {A : DiskA} {h : Heap} {Q : Sl → PP} (P : RD B w A h) (hn : A.now.length ≤ 1000000)
    (hQ : ∀ s h', Own h.size 30 1 enc64 h' s A.logs → Ext h h' → Q s h') : ref07_Logs.C (some ⟨w, 0, none⟩) Q h := by
  apply ref07_Logs.ok
  unfold ref07_Logs.F
  obtain ⟨fsl, dsl, raw, p, ok⟩ := P
  refine now_spec p ok.nchgs fun l1 hv _ => ?_
  have hl1 := hv.sees.len
  refine ⟨fun s i h' => ∃ (k : Nat) (xs : List Nat), k ≤ A.now.length ∧ i = (k : Int) ∧ Own h.size 30 1 enc64 h' s xs ∧ xs.Pairwise (· ≤ ·) ∧ xs.Perm (logsD (A.now.take k)) ∧ Up h.size h h', fun _ i _ => A.now.length - i.toNat, ⟨0, [], by omega, rfl, Own.nil _ _ _ _ _, List.Pairwise.nil, by simp [logsD], Up.refl _ _⟩, ?_⟩
  rintro ⟨s, i, _⟩ h2 ⟨k, xs, hk, hi, o2, hso, hpe, u2⟩
  dsimp only at hi o2 u2
  subst hi
  dsimp only [unc]
  have hz2 := u2.size
  have hxl : xs.length ≤ k := by
    rw [hpe.length_eq]
    have h1 := List.length_filterMap_le (fun p : List UInt8 × Nat => numB logW p.1) (A.now.take k)
    rw [List.length_take] at h1
    unfold logsD
    omega
  refine ifB_of (fun hc => ?_) (fun hc => ?_)
  · have hk1 : k < A.now.length := by have := of_decide_eq_true hc; omega
    have hget := List.getElem?_eq_getElem hk1
    have hnl : A.now[k].1.length ≤ 1000000 := by
      have hr := ok.now.right A.now[k] (List.getElem_mem hk1)
      unfold rightB at hr
      simp only [Bool.and_eq_true, decide_eq_true_eq] at hr
      omega
    have etake : logsD (A.now.take (k + 1)) = logsD (A.now.take k) ++ (match numB logW A.now[k].1 with
        | some n => [n]
        | none => []) := by
      unfold logsD
      rw [List.take_succ_eq_append_getElem hk1, List.filterMap_append]
      congr 1
      cases hx : numB logW A.now[k].1 with
      | none => simp only [List.filterMap_cons, hx, List.filterMap_nil]
      | some n => simp only [List.filterMap_cons, hx, List.filterMap_nil]
    refine join_1 (s := .slice) (fun s' h' => ∃ ys : List Nat, Own h.size 30 1 enc64 h' s' ys ∧ ys.Pairwise (· ≤ ·) ∧ ys.Perm (logsD (A.now.take (k + 1))) ∧ Up h.size h h') ?_ ?_
    · refine Sees.idx encN_len (hv.ext u2.ext).sees rfl hget fun a ha => ?_
      refine ld_of (s := .str) (x := A.now[k].1) (ha 0 _ rfl) ?_
      refine rnumber_spec (word := logW) (by show 3 ≤ 1000; omega) hnl fun h3 u3 => ?_
      rw [etake]
      cases hx : numB logW A.now[k].1 with
      | none =>
        dsimp only
        rw [ifB_of_true (by rfl), List.append_nil]
        exact ⟨xs, o2.ext u3, hso, hpe, u2.trans (u3.up _)⟩
      | some n =>
        dsimp only
        rw [ifB_of_false (by rfl)]
        have o3 := o2.ext u3
        have hsl := o3.len
        have hz3 := u3.size
        refine ⟨fun i h' => ∃ m : Nat, i = (m : Int) ∧ m ≤ xs.length ∧ (∀ x ∈ xs.drop m, n < x) ∧ h' = h3, fun i _ => i.toNat, ⟨xs.length, (show (s.len : Int) = (xs.length : Int) by rw [hsl]), Nat.le_refl _, by simp, rfl⟩, ?_⟩
        rintro ⟨i, _⟩ h4 ⟨m, hi, hm, hgt, hh⟩
        dsimp only at hi hh
        subst hi hh
        dsimp only [unc]
        have wm : m ≠ 0 → IntKind.wrap .i64 ((m : Int) - (1 : Int)) = ((m - 1 : Nat) : Int) := fun h0 => by rw [wi (by omega) (by omega)]; omega
        refine join_b (decide (0 < m) && decide (n < xs.getD (m - 1) 0)) (fun h' => h' = h4) ?_ ?_
        · refine ifB_of (fun hc => ?_) (fun hc => ?_)
          · have hm0 : 0 < m := by have := of_decide_eq_true hc; omega
            have hg : xs[m - 1]? = some xs[m - 1] := List.getElem?_eq_getElem (by omega)
            rw [wm (by omega)]
            refine Sees.idx (enc := enc64) (fun _ => rfl) (Own.sees (enc := enc64) (k := 1) (fun _ => rfl) o3) rfl hg fun a ha => ?_
            refine ld_of (s := .int .u64) (x := (xs[m - 1] : Int)) (ha 0 _ rfl) ⟨?_, rfl⟩
            rw [decide_eq_true hm0, Bool.true_and, List.getD_eq_getElem?_getD, hg, decide_eq_decide]
            show _ ↔ n < xs[m - 1]
            omega
          · have hm0 : ¬ 0 < m := by have := of_decide_eq_false hc; omega
            exact ⟨by rw [decide_eq_false hm0, Bool.false_and], rfl⟩
        · rintro h4 rfl
          refine ifB_of (fun hcd => ?_) (fun hcd => ?_)
          · rw [Bool.and_eq_true, decide_eq_true_eq, decide_eq_true_eq] at hcd
            rw [wm (by omega)]
            refine ⟨⟨m - 1, rfl, by omega, fun x hx => ?_, rfl⟩, (show ((m - 1 : Nat) : Int).toNat < ((m : Nat) : Int).toNat by omega)⟩
            have hd : xs.drop (m - 1) = xs[m - 1] :: xs.drop m := by
              rw [List.drop_eq_getElem_cons (by omega : m - 1 < xs.length), show m - 1 + 1 = m by omega]
            rw [hd] at hx
            rcases List.mem_cons.1 hx with rfl | hx
            · have := hcd.2
              rw [List.getD_eq_getElem?_getD, List.getElem?_eq_getElem (by omega : m - 1 < xs.length)] at this
              exact this
            · exact hgt x hx
          · have hle : m = 0 ∨ ∃ x, xs[m - 1]? = some x ∧ x ≤ n := by
              by_cases hm0 : m = 0
              · exact .inl hm0
              · right
                have hg : xs[m - 1]? = some xs[m - 1] := List.getElem?_eq_getElem (by omega)
                refine ⟨_, hg, ?_⟩
                rw [decide_eq_true (by omega : 0 < m), Bool.true_and, decide_eq_false_iff_not, List.getD_eq_getElem?_getD, hg] at hcd
                have : ¬ n < xs[m - 1] := hcd
                omega
            refine newP_loc fun h5 u5 z5 l5 => ?_
            have o5 := o3.ext u5
            have e0 : Own h4.size 30 1 enc64 h5 ⟨some ⟨h4.size, 0, none⟩, 0, 0⟩ [] := ⟨rfl, rfl, rfl, Nat.le_refl _, _, l5, rfl, Nat.le_refl _, rfl, by show (0 : Nat) ≤ _; omega⟩
            refine slice_sub (lo := 0) (hi := m) o5 rfl rfl (by omega) hm fun t st => ?_
            refine app_sl (enc := enc64) (fun _ => rfl) (fun x v hv => by simp at hv; subst hv; rfl) rfl e0 st (by omega) (by simp; omega) fun s6 h6 o6 b6 _ => ?_
            have up6 : Up h4.size h5 h6 := b6.up e0.low
            have hz6 := up6.size
            refine app_one (enc := enc64) (x := n) (fun _ => rfl) (fun x v hv => by simp at hv; subst hv; rfl) rfl rfl o6 (by omega) (by simp; omega) fun s7 h7 o7 b7 _ => ?_
            have up7 : Up h4.size h5 h7 := up6.trans (b7.up o6.low)
            have hz7 := up7.size
            have up47 : Up h4.size h4 h7 := (u5.up h4.size).trans up7
            have o57 : Own h.size 30 1 enc64 h7 s xs := o3.ext up47.ext
            refine slice_sub (lo := m) (hi := xs.length) o57 rfl (by rw [hsl]) hm (Nat.le_refl _) fun t' st' => ?_
            have hdl : ((xs.drop m).take (xs.length - m)) = xs.drop m := List.take_of_length_le (by rw [List.length_drop]; exact Nat.le_refl _)
            rw [hdl] at st'
            refine app_sl (enc := enc64) (fun _ => rfl) (fun x v hv => by simp at hv; subst hv; rfl) rfl o7 st' (by omega) (by simp; omega) fun s8 h8 o8 b8 _ => ?_
            have up48 : Up h4.size h4 h8 := up47.trans (b8.up o7.low)
            have hzz : h.size ≤ h4.size := by omega
            have hfin : ([] ++ ((xs.drop 0).take (m - 0)) ++ [n]) ++ xs.drop m = xs.take m ++ n :: xs.drop m := by simp
            rw [hfin] at o8
            refine ⟨_, o8.mono hzz, ins_sorted hso hgt (take_le hso hm hle), ?_, (u2.trans (u3.up _)).trans (up48.ext.up _)⟩
            refine (ins_perm xs n m).trans ?_
            refine (List.Perm.cons n hpe).trans ?_
            exact (List.perm_append_singleton _ _).symm
    · rintro s' h' ⟨ys, o', s1, p1, u'⟩
      rw [wi (by omega) (by omega)]
      exact ⟨⟨k + 1, ys, by omega, rfl, o', s1, p1, u'⟩, (show A.now.length - ((k : Int) + 1).toNat < A.now.length - ((k : Nat) : Int).toNat by omega)⟩
  · have hk1 : k = A.now.length := by have := of_decide_eq_false hc; omega
    subst hk1
    rw [List.take_length] at hpe
    rw [sortU_eq hpe hso] at o2
    exact hQ s h2 o2 u2.ext
end Go.Proofs.W
end
section
set_option maxRecDepth 100000
set_option linter.unusedVariables false
namespace Go.Proofs.W
open Go Go.Shal Go.Proofs Go.M
/-- Batches behind others. -/
theorem Bts.appAll {T B B' : Nat} {s t : Sl} {h : Heap} {xs ys : List (Nat × List OpV)} {z : Array Value} {K : Option Addr → Nat → Nat → PP} (b : Bts T B h s xs) (c : Bts T B' h t ys) (hT : T ≠ 124) (hBB : B ≤ B') (hB : B ≤ h.size) (hbl : xs.length + ys.length ≤ 100000000) (hz : z.size = 2)
    (hK : ∀ s' h', Bts T B h' s' (xs ++ ys) → But s h h' → Up B h h' → K s'.p s'.len s'.cap h') : appP T 2 32 z s.p s.len s.cap (.slice t.p t.len t.cap) K h := by
  obtain ⟨raw, a1, a2, a3⟩ := b
  obtain ⟨raw', c1, c2, c3⟩ := c
  refine app_sl (enc := encBt) encBt_len encBt_one hz a1 (Own.sees (enc := encBt) encBt_len c1) hB (by omega) fun s' h' o' b' _ => ?_
  refine hK s' h' ⟨raw ++ raw', o', by simp [a2, c2], fun i r x hr hx => ?_⟩ b' (b'.up a1.low)
  have keepO : ∀ (C : Nat) (u : Sl) (xs : List OpV), Own C 124 3 encO h u xs → Own C 124 3 encO h' u xs := fun C u xs ou =>
    ou.keep fun n cs hn hBn hp => b'.2 n _ hn fun he => by
      have hr := a1.row
      cases hsp : s.p with
      | none => rw [hsp] at he; cases he
      | some a =>
        rw [hsp] at he hr
        obtain ⟨_, _, _, cs', h4, _⟩ := hr
        simp at he
        rw [he, hn] at h4
        cases h4
        exact hT rfl
  by_cases hi : i < raw.length
  · rw [List.getElem?_append_left hi] at hr
    rw [List.getElem?_append_left (by omega)] at hx
    obtain ⟨d1, d2, d3⟩ := a3 i r x hr hx
    exact ⟨d1, keepO _ _ _ d2, d3⟩
  · rw [List.getElem?_append_right (by omega)] at hr
    rw [List.getElem?_append_right (by omega), ← a2] at hx
    obtain ⟨d1, d2, d3⟩ := c3 _ r x hr hx
    exact ⟨d1, (keepO _ _ _ d2).mono hBB, d3⟩
theorem rbatches_spec {data : Bytes} {h : Heap} {Q : Sl → PP} (hd : data.length ≤ 1048576) (hQ : ∀ s h', Bts 144 h.size h' s (batsB data) → Ext h h' → Q s h') : ref07_Batches.C data Q h := by
  apply ref07_Batches.ok
  unfold ref07_Batches.F
  refine rfread_spec (by omega) fun t h1 ot u1 => ?_
  unfold batsB at hQ
  have hrf := readF_len data
  have hrm := readF_mem data
  generalize (readF data).1 = recs at hQ ot hrf hrm
  have htl := ot.len
  have hz1 := u1.size
  refine ⟨fun _ s i h' => ∃ (k : Nat) (bs' : List (Nat × List OpV)), i = (k : Int) ∧ k ≤ recs.length ∧ bs'.length ≤ k ∧ batsR recs = bs' ++ batsR (recs.drop k) ∧ Bts 144 h1.size h' s bs' ∧ Up h1.size h1 h', fun _ _ i _ => recs.length - i.toNat, ⟨0, [], rfl, by omega, Nat.le_refl _, by simp, Bts.nil _ _ _, Up.refl _ _⟩, ?_⟩
  rintro ⟨_, s, i, _⟩ h2 ⟨k, bs', hi, hk, hbl', hbs, o2, k2⟩
  dsimp only at hi o2 k2
  subst hi
  dsimp only [unc]
  have ot2 := ot.ext k2.ext
  have fin : ∀ h', Bts 144 h1.size h' s bs' → Up h1.size h1 h' → batsR (recs.drop k) = [] → Q s h' := fun h' o' k' he => by
    rw [he, List.append_nil] at hbs
    rw [hbs] at hQ
    obtain ⟨raw, b1, b2, b3⟩ := o'
    exact hQ s h' ⟨raw, b1.mono hz1, b2, fun i r x hr hx => let ⟨c1, c2, c3⟩ := b3 i r x hr hx; ⟨c1, c2.mono hz1, c3⟩⟩ (u1.trans k'.ext)
  refine ifB_of (fun hc => ?_) (fun hc => ?_)
  · have hk1 : k < recs.length := by have := of_decide_eq_true hc; omega
    have hget := List.getElem?_eq_getElem hk1
    have hdrop : recs.drop k = recs[k] :: recs.drop (k + 1) := List.drop_eq_getElem_cons hk1
    have hr8 := hrm recs[k] (List.getElem_mem hk1)
    generalize recs[k] = r at hget hdrop hr8
    refine Sees.idx1 (enc := encS) (Own.sees (enc := fun l => [encS l]) (k := 1) (fun _ => rfl) ot2) rfl hget fun a ha => ?_
    refine ld_of (s := .str) (x := r) ha ?_
    refine rdecode_spec (by omega) fun h3 u3 => ?_
    have hz2 := k2.size
    have hz3 := u3.size
    unfold Got
    cases hd : decB r with
    | none =>
      dsimp only
      refine newP_loc fun h4 u4 z4 l4 => ?_
      refine sts_loc l4 rfl (by simp) fun h5 l5 o5 => ?_
      rw [ifB_of_true (by rfl)]
      have u25 : Ext h2 h5 := u3.trans ((u4.up h3.size).trans (o5.up (Nat.le_refl _))).ext
      refine fin h5 (o2.ext u25) (k2.trans (u25.up _)) ?_
      rw [hdrop]
      unfold batsR
      rw [hd]
    | some b =>
      obtain ⟨seq, ops⟩ := b
      have h16 := decB_len hd
      dsimp only
      intro so oso
      refine newP_loc fun h4 u4 z4 l4 => ?_
      refine sts_loc l4 rfl (by simp) fun h5 l5 o5 => ?_
      rw [ifB_of_false (by rfl)]
      have u35 : Ext h3 h5 := ((u4.up h3.size).trans (o5.up (Nat.le_refl _))).ext
      have u25 : Ext h2 h5 := u3.trans u35
      have hz5 := u25.size
      refine lds_loc (l := [.int .u64, .slice]) ((seq : Int), so, ()) l5 ?_
      dsimp only [unc]
      refine (o2.ext u25).app (by decide) ((oso.ext u35).mono (by omega)) h16 (by omega) (by omega) rfl rfl fun s' h6 bt6 b6 hs6 => ?_
      rw [wi (by omega) (by omega)]
      refine ⟨⟨k + 1, bs' ++ [(seq, ops)], rfl, by omega, by rw [List.length_append]; simp; omega, ?_, bt6, (k2.trans (u25.up _)).trans (b6.up fun a ha => (hs6 a ha).1)⟩, (show recs.length - ((k : Int) + 1).toNat < recs.length - ((k : Nat) : Int).toNat by omega)⟩
      rw [hbs, hdrop, List.append_assoc, List.singleton_append]
      congr 1
      conv => lhs; unfold batsR
      rw [hd]
  · have hk1 : k = recs.length := by have := of_decide_eq_false hc; omega
    subst hk1
    refine fin h2 o2 k2 ?_
    rw [List.drop_length]
    rfl
theorem rreplay_spec {B w n : Nat} {A : DiskA} {h : Heap} {Q : Sl → Int → PP} (P : RD B w A h) (hn : n < 18446744073709551616) (hnow : A.now.length ≤ 1000)
    (hQ : ∀ s h', Bts 144 h.size h' s (A.replay n).1 → Ext h h' → Q s ((A.replay n).2 : Int) h') : ref07_Replay.C (some ⟨w, 0, none⟩) (n : Int) Q h := by
  have P0 := P
  obtain ⟨fsl, dsl, raw, p, ok⟩ := P0
  apply ref07_Replay.ok
  unfold ref07_Replay.F
  rw [nilP_some]
  refine ld_loc (n := 3) (s := .bool) (x := A.off) p.cell rfl ?_
  unfold DiskA.replay at hQ
  cases hoff : A.off with
  | true =>
    rw [hoff, if_pos rfl] at hQ
    exact hQ _ h (Bts.nil _ _ _) (Ext.refl _)
  | false =>
    rw [hoff, if_neg (by decide)] at hQ
    rw [ifB_of_false rfl]
    refine rlogs_spec P (by omega) fun ls h1 o1 u1 => ?_
    have hll := o1.len
    have hlen := logs_len A
    have hz1 := u1.size
    have hlt := logs_lt (A := A)
    generalize A.logs = L at o1 hll hlen hQ hlt
    let part : List Nat → List (Nat × List OpV) := fun l => (l.filter fun m => decide (n ≤ m)).flatMap fun m => batsB (A.read (nameB logW m)).1
    refine ⟨fun s i h' => ∃ (k : Nat) (bs' : List (Nat × List OpV)), i = (k : Int) ∧ k ≤ L.length ∧ bs'.length ≤ 32768 * k ∧ part L = bs' ++ part (L.drop k) ∧ Bts 144 h1.size h' s bs' ∧ Up h1.size h1 h', fun _ i _ => L.length - i.toNat, ⟨0, [], rfl, by omega, Nat.le_refl _, by simp, Bts.nil _ _ _, Up.refl _ _⟩, ?_⟩
    rintro ⟨s, i, _⟩ h2 ⟨k, bs', hi, hk, hbl', hbs, o2, k2⟩
    dsimp only at hi o2 k2
    subst hi
    dsimp only [unc]
    have hz2 := k2.size
    have oL := o1.ext k2.ext
    refine ifB_of (fun hc => ?_) (fun hc => ?_)
    · have hk1 : k < L.length := by have := of_decide_eq_true hc; omega
      have hget := List.getElem?_eq_getElem hk1
      have hdrop : L.drop k = L[k] :: L.drop (k + 1) := List.drop_eq_getElem_cons hk1
      have hm64 := hlt L[k] (List.getElem_mem hk1)
      generalize L[k] = m at hget hdrop hm64
      refine join_1 (s := .slice) (fun s' h' => ∃ bs2 : List (Nat × List OpV), bs2.length ≤ 32768 * (k + 1) ∧ part L = bs2 ++ part (L.drop (k + 1)) ∧ Bts 144 h1.size h' s' bs2 ∧ Up h1.size h1 h') ?_ ?_
      · refine Sees.idx (enc := enc64) (fun _ => rfl) (Own.sees (enc := enc64) (k := 1) (fun _ => rfl) oL) rfl hget fun a ha => ?_
        refine ld_of (s := .int .u64) (x := (m : Int)) (ha 0 _ rfl) ?_
        refine ifB_of (fun hc => ?_) (fun hc => ?_)
        · have hge : n ≤ m := by have := of_decide_eq_true hc; omega
          refine Sees.idx (enc := enc64) (fun _ => rfl) (Own.sees (enc := enc64) (k := 1) (fun _ => rfl) oL) rfl hget fun a ha => ?_
          refine ld_of (s := .int .u64) (x := (m : Int)) (ha 0 _ rfl) ?_
          refine rname_spec (word := logW) hm64 (by show 3 ≤ 1000; omega) fun h3 u3 => ?_
          have u03 : Ext h h3 := (u1.trans k2.ext).trans u3
          refine rread_spec (P.ext u03) (by omega) ?_
          have hrl := read_len ok (nameB logW m)
          refine rbatches_spec hrl fun t h4 ot u4 => ?_
          have hz3 := u3.size
          have hz4 := u4.size
          have hbb := batsB_len (A.read (nameB logW m)).1
          refine ((o2.ext u3).ext u4).appAll ot (by decide) (by omega) (by omega) (by omega) rfl fun s5 h5 bt5 b5 up5 => ?_
          refine ⟨_, by rw [List.length_append]; omega, ?_, bt5, (((k2.trans (u3.up _)).trans (u4.up _))).trans up5⟩
          rw [hbs, hdrop]
          show bs' ++ ((m :: L.drop (k + 1)).filter _).flatMap _ = _
          rw [List.filter_cons_of_pos (by simpa using hge), List.flatMap_cons, List.append_assoc]
        · have hlt : ¬ n ≤ m := by have := of_decide_eq_false hc; omega
          refine ⟨bs', by omega, ?_, o2, k2⟩
          rw [hbs, hdrop]
          show bs' ++ ((m :: L.drop (k + 1)).filter _).flatMap _ = _
          rw [List.filter_cons_of_neg (by simpa using hlt)]
      · rintro s' h' ⟨bs2, a1, a2, a3, a4⟩
        rw [wi (by omega) (by omega)]
        exact ⟨⟨k + 1, bs2, rfl, by omega, a1, a2, a3, a4⟩, (show L.length - ((k : Int) + 1).toNat < L.length - ((k : Nat) : Int).toNat by omega)⟩
    · have hk1 : k = L.length := by have := of_decide_eq_false hc; omega
      subst hk1
      rw [List.drop_length] at hbs
      have hfin : part L = bs' := by rw [hbs]; simp [part]
      have : part L = (L.filter fun m => decide (n ≤ m)).flatMap fun m => batsB (A.read (nameB logW m)).1 := rfl
      rw [← this, hfin] at hQ
      obtain ⟨raw', b1, b2, b3⟩ := o2
      exact hQ s h2 ⟨raw', b1.mono hz1, b2, fun i r x hr hx => let ⟨c1, c2, c3⟩ := b3 i r x hr hx; ⟨c1, c2.mono hz1, c3⟩⟩ (u1.trans k2.ext)
theorem rretire_spec {B w n : Nat} {A : DiskA} {h : Heap} {Q : Int → PP} (P : RD B w A h) (hB : B ≤ h.size) (hn : n < 18446744073709551616) (k c : Nat) (bd : Bd k c A) (hk : k ≤ 1000) (hc : c ≤ 1000000)
    (hQ : ∀ h', RD B w (A.retire n).2 h' → Keep B MR h h' → Q ((A.retire n).1 : Int) h') : ref07_Retire.C (some ⟨w, 0, none⟩) (n : Int) Q h := by
  have P0 := P
  obtain ⟨fsl, dsl, raw, p, ok⟩ := P0
  have hnow := bd.now
  apply ref07_Retire.ok
  unfold ref07_Retire.F
  rw [nilP_some]
  refine ld_loc (n := 3) (s := .bool) (x := A.off) p.cell rfl ?_
  unfold DiskA.retire at hQ
  cases hoff : A.off with
  | true =>
    rw [hoff, if_pos rfl] at hQ
    exact hQ h P (Keep.refl _ _ _)
  | false =>
    rw [hoff, if_neg (by decide)] at hQ
    rw [ifB_of_false rfl]
    refine rlogs_spec P (by omega) fun ls h1 o1 u1 => ?_
    have hll := o1.len
    have hlen := logs_len A
    have hlt := logs_lt (A := A)
    generalize A.logs = L at o1 hll hlen hQ hlt
    refine ⟨fun _ i h' => ∃ (t : Nat) (A1 : DiskA), i = (t : Int) ∧ t ≤ L.length ∧ RD B w A1 h' ∧ Bd k (c + t) A1 ∧ A.dels (L.filter fun m => decide (m < n)) = A1.dels ((L.drop t).filter fun m => decide (m < n)) ∧ Keep B MR h h' ∧ Own h.size 30 1 enc64 h' ls L, fun _ i _ => L.length - i.toNat, ⟨0, A, rfl, by omega, P.ext u1, bd, by simp, u1.keep _ _, o1⟩, ?_⟩
    rintro ⟨_, i, _⟩ h2 ⟨t, A1, hi, ht, P1, bd1, hd1, k2, oL⟩
    dsimp only at hi P1 k2 oL
    subst hi
    dsimp only [unc]
    have hz2 := k2.size
    refine ifB_of (fun hcc => ?_) (fun hcc => ?_)
    · have hk1 : t < L.length := by have := of_decide_eq_true hcc; omega
      have hget := List.getElem?_eq_getElem hk1
      have hdrop : L.drop t = L[t] :: L.drop (t + 1) := List.drop_eq_getElem_cons hk1
      have hm64 := hlt L[t] (List.getElem_mem hk1)
      generalize L[t] = m at hget hdrop hm64
      rw [hdrop] at hd1
      refine ⟨fun _ h' => ∃ A2 : DiskA, RD B w A2 h' ∧ Bd k (c + (t + 1)) A2 ∧ A.dels (L.filter fun m => decide (m < n)) = A2.dels ((L.drop (t + 1)).filter fun m => decide (m < n)) ∧ Keep B MR h h' ∧ Own h.size 30 1 enc64 h' ls L, ?_, ?_⟩
      · refine Sees.idx (enc := enc64) (fun _ => rfl) (Own.sees (enc := enc64) (k := 1) (fun _ => rfl) oL) rfl hget fun a ha => ?_
        refine ld_of (s := .int .u64) (x := (m : Int)) (ha 0 _ rfl) ?_
        refine ifB_of (fun hcc => ?_) (fun hcc => ?_)
        · have hmn : m < n := by have := of_decide_eq_true hcc; omega
          rw [List.filter_cons_of_pos (by simpa using hmn)] at hd1
          refine Sees.idx (enc := enc64) (fun _ => rfl) (Own.sees (enc := enc64) (k := 1) (fun _ => rfl) oL) rfl hget fun a ha => ?_
          refine ld_of (s := .int .u64) (x := (m : Int)) (ha 0 _ rfl) ?_
          refine rname_spec (word := logW) hm64 (by show 3 ≤ 1000; omega) fun h3 u3 => ?_
          have hz3 := u3.size
          have hn1 := bd1.now
          have hc1 := bd1.chgs
          refine rdelete_spec (P1.ext u3) (by omega) (by omega) (by omega) fun h4 P4 k4 => ?_
          have bd4 := bd1.delete (nameB logW m)
          have hd : A1.dels (m :: (L.drop (t + 1)).filter fun m => decide (m < n)) = if (A1.delete (nameB logW m)).1 = 0 then (A1.delete (nameB logW m)).2.dels ((L.drop (t + 1)).filter fun m => decide (m < n)) else A1.delete (nameB logW m) := rfl
          rw [hd] at hd1
          have k04 : Keep B MR h h4 := (k2.trans (u3.keep _ _)).trans k4
          have oL4 := (oL.ext u3).keepM k4 (fun _ => rfl)
          generalize A1.delete (nameB logW m) = r at P4 bd4 hd1
          obtain ⟨e, A2⟩ := r
          dsimp only at P4 bd4 hd1 ⊢
          refine ifB_of (fun hcc => ?_) (fun hcc => ?_)
          · have he : ¬ e = 0 := by intro h0; rw [h0] at hcc; simp at hcc
            rw [if_neg he] at hd1
            rw [hd1] at hQ
            exact hQ h4 P4 k04
          · have he : e = 0 := by have : (e : Int) = 0 := by simpa using hcc
                                  omega
            rw [if_pos he] at hd1
            exact ⟨A2, P4, bd4, hd1, k04, oL4⟩
        · have hmn : ¬ m < n := by have := of_decide_eq_false hcc; omega
          rw [List.filter_cons_of_neg (by simpa using hmn)] at hd1
          exact ⟨A1, P1, bd1.mono (Nat.le_refl _) (by omega), hd1, k2, oL⟩
      · rintro ⟨_, _⟩ h3 ⟨A2, a1, a2, a3, a4, a5⟩
        dsimp only [unc]
        rw [wi (by omega) (by omega)]
        exact ⟨⟨t + 1, A2, rfl, by omega, a1, a2, a3, a4, a5⟩, (show L.length - ((t : Int) + 1).toNat < L.length - ((t : Nat) : Int).toNat by omega)⟩
    · have hk1 : t = L.length := by have := of_decide_eq_false hcc; omega
      subst hk1
      rw [List.drop_length, List.filter_nil] at hd1
      rw [hd1] at hQ
      exact hQ h2 P1 k2
end Go.Proofs.W
end
section
set_option maxRecDepth 100000
set_option linter.unusedVariables false
namespace Go.Proofs.W
open Go Go.Shal Go.Proofs Go.M
theorem act_other {A : DiskA} {x : ActV} (h : 10 ≤ x.do_) : A.act x = (([], 0), A) := by
  unfold DiskA.act
  split <;> first | omega | rfl
section
variable {B d w k c : Nat} {A : DiskA} {h : Heap}
theorem does5_spec {x : ActV} {ks ss : Sl} {Q : Bytes → Int → PP} (P : PD B d A h) (hB : B ≤ h.size) (C : CrashAt B h x.crash ks ss) (bd : Bd k c A) (hk : k ≤ 1000) (hc : c ≤ 1000000) (hb : x.b.length ≤ 1000000000) (hn : x.n < 9223372036854775808)
    (hQ : ∀ h', PD B d (A.act x).2 h' → Keep B MP h h' → Q (A.act x).1.1 ((A.act x).1.2 : Int) h') : law05_Does.C (some ⟨d, 0, none⟩) (x.do_ : Int) x.a x.b x.n x.crash.names ks ss Q h := by
  apply law05_Does.ok
  unfold law05_Does.F
  refine newP_loc fun h1 u1 z1 l1 => ?_
  have P1 := P.ext u1
  have hf := bd.files
  have hnow := bd.now
  have hch := bd.chgs
  have fin : ∀ {r : (List UInt8 × Nat) × DiskA} (h2 : Heap), A.act x = r → PD B d r.2 h2 → Keep B MP h1 h2 → Q r.1.1 (r.1.2 : Int) h2 := fun {r} h2 he hp hk => by
    subst he
    exact hQ h2 hp ((u1.keep _ _).trans hk)
  refine ld_loc (n := 0) (s := .int .u8) (x := (x.do_ : Int)) l1 rfl ?_
  have ea : ∀ m : Nat, x.do_ = m → A.act x = A.act { x with do_ := m } := fun m hm => by subst hm; rfl
  refine ifB_of (fun hb' => ?_) (fun hb0 => ?_)
  · have he : x.do_ = 0 := by have : (x.do_ : Int) = 0 := by simpa using hb'
                              omega
    refine ld_loc (n := 1) (s := .str) (x := x.a) l1 rfl ?_
    exact create_spec P1 (by omega) (by omega) (by omega) fun h2 P2 k2 => fin h2 (ea 0 he) P2 k2
  refine ifB_of (fun hb' => ?_) (fun hb1 => ?_)
  · have he : x.do_ = 1 := by have : (x.do_ : Int) = 1 := by simpa using hb'
                              omega
    refine ld_loc (n := 1) (s := .str) (x := x.a) l1 rfl ?_
    refine ld_loc (n := 2) (s := .str) (x := x.b) l1 rfl ?_
    exact append_spec P1 (by omega) (by omega) hb fun h2 P2 k2 => fin h2 (ea 1 he) P2 k2
  refine ifB_of (fun hb' => ?_) (fun hb2 => ?_)
  · have he : x.do_ = 2 := by have : (x.do_ : Int) = 2 := by simpa using hb'
                              omega
    refine ld_loc (n := 1) (s := .str) (x := x.a) l1 rfl ?_
    exact sync_spec P1 fun h2 P2 k2 => fin h2 (ea 2 he) P2 k2
  refine ifB_of (fun hb' => ?_) (fun hb3 => ?_)
  · have he : x.do_ = 3 := by have : (x.do_ : Int) = 3 := by simpa using hb'
                              omega
    refine ld_loc (n := 1) (s := .str) (x := x.a) l1 rfl ?_
    refine ld_loc (n := 2) (s := .str) (x := x.b) l1 rfl ?_
    exact rename_spec P1 (by omega) (by omega) fun h2 P2 k2 => fin h2 (ea 3 he) P2 k2
  refine ifB_of (fun hb' => ?_) (fun hb4 => ?_)
  · have he : x.do_ = 4 := by have : (x.do_ : Int) = 4 := by simpa using hb'
                              omega
    refine ld_loc (n := 1) (s := .str) (x := x.a) l1 rfl ?_
    exact delete_spec P1 (by omega) (by omega) fun h2 P2 k2 => fin h2 (ea 4 he) P2 k2
  refine ifB_of (fun hb' => ?_) (fun hb5 => ?_)
  · have he : x.do_ = 5 := by have : (x.do_ : Int) = 5 := by simpa using hb'
                              omega
    exact dirSync_spec P1 (by omega) fun h2 P2 k2 => fin h2 (ea 5 he) P2 k2
  refine ifB_of (fun hb' => ?_) (fun hb6 => ?_)
  · have he : x.do_ = 6 := by have : (x.do_ : Int) = 6 := by simpa using hb'
                              omega
    refine ld_loc (n := 3) (s := .int .i64) (x := x.n) l1 rfl ?_
    exact fuse_spec P1 hn fun h2 P2 k2 => fin h2 (ea 6 he) P2 k2
  refine ifB_of (fun hb' => ?_) (fun hb7 => ?_)
  · have he : x.do_ = 7 := by have : (x.do_ : Int) = 7 := by simpa using hb'
                              omega
    refine lds_at (l := [.int .i64, .slice, .slice]) (x.crash.names, ks, ss, ()) (fun n v hv => ?_) ?_
    · rw [add_add]
      exact l1.cell (by
        match n, hv with
        | 0, hv => exact hv
        | 1, hv => exact hv
        | 2, hv => exact hv
        | n + 3, hv => simp [injs] at hv)
    · have hd := bd.dirs (min x.crash.names.toNat A.chgs.length)
      exact crash_spec P1 (by omega) (C.ext u1) (by omega) fun h2 P2 k2 => fin h2 (ea 7 he) P2 k2
  refine ifB_of (fun hb' => ?_) (fun hb8 => ?_)
  · have he : x.do_ = 8 := by have : (x.do_ : Int) = 8 := by simpa using hb'
                              omega
    exact start_spec P1 fun h2 P2 k2 => fin h2 (ea 8 he) P2 k2
  refine ifB_of (fun hb' => ?_) (fun hb9 => ?_)
  · have he : x.do_ = 9 := by have : (x.do_ : Int) = 9 := by simpa using hb'
                              omega
    refine ld_loc (n := 1) (s := .str) (x := x.a) l1 rfl ?_
    exact read_spec P1 (fin h1 (ea 9 he) P1 (Keep.refl _ _ _))
  · have h10 : 10 ≤ x.do_ := by
      simp only [beq_eq_false_iff_ne, ne_eq] at hb0 hb1 hb2 hb3 hb4 hb5 hb6 hb7 hb8 hb9
      omega
    exact fin h1 (act_other h10) P1 (Keep.refl _ _ _)
theorem said5_spec {x : ActV} {ks ss : Sl} {Q : Bytes → Int → PP} (P : RD B w A h) (hB : B ≤ h.size) (C : CrashAt B h x.crash ks ss) (bd : Bd k c A) (hk : k ≤ 1000) (hc : c ≤ 1000000) (ha : x.a.length ≤ 1000000000) (hb : x.b.length ≤ 1000000000) (hn : x.n < 9223372036854775808)
    (hQ : ∀ h', RD B w (A.act x).2 h' → Keep B MR h h' → Q (A.act x).1.1 ((A.act x).1.2 : Int) h') : law05_Said.C (some ⟨w, 0, none⟩) (x.do_ : Int) x.a x.b x.n x.crash.names ks ss Q h := by
  apply law05_Said.ok
  unfold law05_Said.F
  refine newP_loc fun h1 u1 z1 l1 => ?_
  have P1 := P.ext u1
  have hf := bd.files
  have hnow := bd.now
  have hch := bd.chgs
  have fin : ∀ {r : (List UInt8 × Nat) × DiskA} (h2 : Heap), A.act x = r → RD B w r.2 h2 → Keep B MR h1 h2 → Q r.1.1 (r.1.2 : Int) h2 := fun {r} h2 he hp hk => by
    subst he
    exact hQ h2 hp ((u1.keep _ _).trans hk)
  refine ld_loc (n := 0) (s := .int .u8) (x := (x.do_ : Int)) l1 rfl ?_
  have ea : ∀ m : Nat, x.do_ = m → A.act x = A.act { x with do_ := m } := fun m hm => by subst hm; rfl
  refine ifB_of (fun hb' => ?_) (fun hb0 => ?_)
  · have he : x.do_ = 0 := by have : (x.do_ : Int) = 0 := by simpa using hb'
                              omega
    refine ld_loc (n := 1) (s := .str) (x := x.a) l1 rfl ?_
    exact rcreate_spec P1 (by omega) (by omega) ha (by omega) (by omega) fun h2 P2 k2 => fin h2 (ea 0 he) P2 k2
  refine ifB_of (fun hb' => ?_) (fun hb1 => ?_)
  · have he : x.do_ = 1 := by have : (x.do_ : Int) = 1 := by simpa using hb'
                              omega
    refine ld_loc (n := 1) (s := .str) (x := x.a) l1 rfl ?_
    refine ld_loc (n := 2) (s := .str) (x := x.b) l1 rfl ?_
    exact rappend_spec P1 (by omega) hb fun h2 P2 k2 => fin h2 (ea 1 he) P2 k2
  refine ifB_of (fun hb' => ?_) (fun hb2 => ?_)
  · have he : x.do_ = 2 := by have : (x.do_ : Int) = 2 := by simpa using hb'
                              omega
    refine ld_loc (n := 1) (s := .str) (x := x.a) l1 rfl ?_
    exact rsync_spec P1 (by omega) fun h2 P2 k2 => fin h2 (ea 2 he) P2 k2
  refine ifB_of (fun hb' => ?_) (fun hb3 => ?_)
  · have he : x.do_ = 3 := by have : (x.do_ : Int) = 3 := by simpa using hb'
                              omega
    refine ld_loc (n := 1) (s := .str) (x := x.a) l1 rfl ?_
    refine ld_loc (n := 2) (s := .str) (x := x.b) l1 rfl ?_
    exact rrename_spec P1 (by omega) (by omega) hb (by omega) fun h2 P2 k2 => fin h2 (ea 3 he) P2 k2
  refine ifB_of (fun hb' => ?_) (fun hb4 => ?_)
  · have he : x.do_ = 4 := by have : (x.do_ : Int) = 4 := by simpa using hb'
                              omega
    refine ld_loc (n := 1) (s := .str) (x := x.a) l1 rfl ?_
    exact rdelete_spec P1 (by omega) (by omega) (by omega) fun h2 P2 k2 => fin h2 (ea 4 he) P2 k2
  refine ifB_of (fun hb' => ?_) (fun hb5 => ?_)
  · have he : x.do_ = 5 := by have : (x.do_ : Int) = 5 := by simpa using hb'
                              omega
    exact rdirSync_spec P1 (by omega) fun h2 P2 k2 => fin h2 (ea 5 he) P2 k2
  refine ifB_of (fun hb' => ?_) (fun hb6 => ?_)
  · have he : x.do_ = 6 := by have : (x.do_ : Int) = 6 := by simpa using hb'
                              omega
    refine ld_loc (n := 3) (s := .int .i64) (x := x.n) l1 rfl ?_
    exact rsetFuse_spec P1 hn fun h2 P2 k2 => fin h2 (ea 6 he) P2 k2
  refine ifB_of (fun hb' => ?_) (fun hb7 => ?_)
  · have he : x.do_ = 7 := by have : (x.do_ : Int) = 7 := by simpa using hb'
                              omega
    refine lds_at (l := [.int .i64, .slice, .slice]) (x.crash.names, ks, ss, ()) (fun n v hv => ?_) ?_
    · rw [add_add]
      exact l1.cell (by
        match n, hv with
        | 0, hv => exact hv
        | 1, hv => exact hv
        | 2, hv => exact hv
        | n + 3, hv => simp [injs] at hv)
    · have hd := bd.dirs (min x.crash.names.toNat A.chgs.length)
      exact rcrash_spec P1 (by omega) (C.ext u1) (by omega) fun h2 P2 k2 => fin h2 (ea 7 he) P2 k2
  refine ifB_of (fun hb' => ?_) (fun hb8 => ?_)
  · have he : x.do_ = 8 := by have : (x.do_ : Int) = 8 := by simpa using hb'
                              omega
    obtain ⟨fsl, dsl, raw, p, ok⟩ := P1
    rw [nilP_some]
    refine st_loc (n := 3) (s := .bool) p.cell (by simp) (by decide) fun h2 l2 o2 => ?_
    have p2 : RDr B w A.start fsl dsl raw h2 := p.set o2 l2 rfl rfl rfl
    exact fin h2 (ea 8 he) ⟨fsl, dsl, raw, p2, start_ok ok⟩ (p.keepSet o2)
  refine ifB_of (fun hb' => ?_) (fun hb9 => ?_)
  · have he : x.do_ = 9 := by have : (x.do_ : Int) = 9 := by simpa using hb'
                              omega
    refine ld_loc (n := 1) (s := .str) (x := x.a) l1 rfl ?_
    exact rread_spec P1 (by omega) (fin h1 (ea 9 he) P1 (Keep.refl _ _ _))
  · have h10 : 10 ≤ x.do_ := by
      simp only [beq_eq_false_iff_ne, ne_eq] at hb0 hb1 hb2 hb3 hb4 hb5 hb6 hb7 hb8 hb9
      omega
    exact fin h1 (act_other h10) P1 (Keep.refl _ _ _)
theorem stands_spec {Q : Bool → PP} (P : PD B d A h) (R : RD B w A h) (bd : Bd k c A) (hk : k ≤ 1000) (hQ : ∀ h', Ext h h' → Q true h') : law05_Stands.C (some ⟨d, 0, none⟩) (some ⟨w, 0, none⟩) Q h := by
  apply law05_Stands.ok
  unfold law05_Stands.F
  have hnow := bd.now
  refine list_spec P (by omega) fun l1 h1 o1 u1 => ?_
  obtain ⟨fsl, dsl, raw, r0, ok⟩ := R
  have r1 := r0.ext u1
  refine now_spec r1 ok.nchgs fun l2 hv _ => ?_
  have e1 := o1.len
  rw [List.length_map] at e1
  have e2 := hv.sees.len
  refine join_b false (fun h' => Ext h1 h') ?_ ?_
  · refine draw_ext ?_
    rw [ifB_of_false (by rw [e1, e2]; simp)]
    obtain ⟨fb, fs, mn, ml, ch, p0, _⟩ := P
    have p1 := p0.ext u1
    refine used_spec p1 ok (by omega) fun h2 u2 => ?_
    have p2 := p1.ext u2
    have r2 := r1.ext u2
    refine rused_spec r2 ok (by omega) ?_
    rw [ifB_of_false (by simp), nilP_some]
    have PP2 : PD B d A h2 := ⟨fb, fs, mn, ml, ch, p2, ok⟩
    have l4 : ∀ {K : Int → PP}, K (A.fuse : Int) h2 → ld (.int .i64) ((⟨w, 0, none⟩ : Addr).add 4) K h2 := fun hk => ld_loc (s := .int .i64) (x := (A.fuse : Int)) r2.cell rfl hk
    have l3 : ∀ {K : Bool → PP}, K A.off h2 → ld .bool ((⟨w, 0, none⟩ : Addr).add 3) K h2 := fun hk => ld_loc (s := .bool) (x := A.off) r2.cell rfl hk
    have l0 : ∀ {K : Int → PP}, K (A.room : Int) h2 → ld (.int .i64) ((⟨w, 0, none⟩ : Addr).add 0) K h2 := fun hk => ld_loc (s := .int .i64) (x := (A.room : Int)) r2.cell rfl hk
    have fin : ∀ {b : Bool}, b = false → b = false ∧ Ext h1 h2 := fun hb => ⟨hb, u2⟩
    have last : ∀ {M : Bool → PP}, (∀ b : Bool, b = false → M b h2) → nilP (some ⟨w, 0, none⟩) (fun a => andP (disk_Disk_Room.C (some ⟨d, 0, none⟩) fun n => ld (.int .i64) (a.add 0) fun m => M (n != m)) (ld (.int .i64) (a.add 0) fun m => disk_Disk_Room.C (some ⟨d, 0, none⟩) fun n => M (n != m))) h2 := fun hM => by
      rw [nilP_some]
      exact ⟨room_spec PP2 (l0 (hM _ (by simp))), l0 (room_spec PP2 (hM _ (by simp)))⟩
    refine ⟨fused_spec PP2 (l4 ?_), l4 (fused_spec PP2 ?_)⟩
    · rw [ifB_of_false (by simp), nilP_some]
      refine ⟨down_spec PP2 (l3 ?_), l3 (down_spec PP2 ?_)⟩
      · rw [ifB_of_false (by simp)]
        exact last (M := fun b h' => b = false ∧ Ext h1 h') fun b hb => fin hb
      · rw [ifB_of_false (by simp)]
        exact last (M := fun b h' => b = false ∧ Ext h1 h') fun b hb => fin hb
    · rw [ifB_of_false (by simp), nilP_some]
      refine ⟨down_spec PP2 (l3 ?_), l3 (down_spec PP2 ?_)⟩
      · rw [ifB_of_false (by simp)]
        exact last (M := fun b h' => b = false ∧ Ext h1 h') fun b hb => fin hb
      · rw [ifB_of_false (by simp)]
        exact last (M := fun b h' => b = false ∧ Ext h1 h') fun b hb => fin hb
  · intro h2 u2
    rw [ifB_of_false rfl]
    have u02 := u1.trans u2
    have o2 := o1.ext u2
    have v2 := hv.ext u2
    have P2 := P.ext u02
    have R2 : RD B w A h2 := ⟨fsl, dsl, raw, r0.ext u02, ok⟩
    refine ⟨fun _ i h' => ∃ t : Nat, i = (t : Int) ∧ t ≤ A.now.length ∧ h' = h2, fun _ i _ => A.now.length - i.toNat, ⟨0, rfl, by omega, rfl⟩, ?_⟩
    rintro ⟨_, i, _⟩ h3 ⟨t, hi, ht, hh⟩
    dsimp only at hi hh
    subst hi hh
    dsimp only [unc]
    refine ifB_of (fun hc => ?_) (fun hc => hQ h3 u02)
    have ht1 : t < A.now.length := by have := of_decide_eq_true hc; omega
    have hget := List.getElem?_eq_getElem ht1
    have hgm : (A.now.map (·.1))[t]? = some A.now[t].1 := by rw [List.getElem?_map, hget]; rfl
    have so : Sees 1 (fun l => [encS l]) h3 l1 (A.now.map (·.1)) := Own.sees (enc := fun l => [encS l]) (k := 1) (fun _ => rfl) o2
    refine Sees.idx1 (enc := encS) so rfl hgm fun a ha => ?_
    refine ld_of (s := .str) (x := A.now[t].1) ha ?_
    refine read_spec P2 ?_
    refine Sees.idx encN_len v2.sees rfl hget fun a ha => ?_
    refine ld_of (s := .str) (x := A.now[t].1) (ha 0 _ rfl) ?_
    refine rread_spec R2 (by omega) ?_
    refine join_b false (fun h' => h' = h3) ?_ ?_
    · refine draw_ext ?_
      refine Sees.idx1 (enc := encS) so rfl hgm fun a ha => ?_
      refine ldG_ext (s := .str) (x := A.now[t].1) ha ?_
      refine Sees.idx encN_len v2.sees rfl hget fun a ha => ?_
      refine ldG_ext (s := .str) (x := A.now[t].1) (ha 0 _ rfl) ?_
      rw [ifB_of_false (by simp), ifB_of_false (by simp)]
      exact ⟨by simp, rfl⟩
    · rintro h3 rfl
      rw [ifB_of_false rfl, wi (by omega) (by omega)]
      exact ⟨⟨t + 1, rfl, by omega, rfl⟩, (show A.now.length - ((t : Int) + 1).toNat < A.now.length - ((t : Nat) : Int).toNat by omega)⟩
end
end Go.Proofs.W
end
