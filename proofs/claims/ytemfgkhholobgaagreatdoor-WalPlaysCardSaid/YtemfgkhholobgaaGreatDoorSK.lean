/- Layer 5: the document's disk: Rename. Layer 5: the document's disk: what a crash leaves. Layer 5: the document's disk: a crash, whole. -/
import Derived.Test.YtemfgkhholobgaaGreatDoorSJ
section
set_option maxRecDepth 100000
set_option linter.unusedVariables false
namespace Go.Proofs.W
open Go Go.Shal Go.Proofs Go.M
section
variable {B w : Nat} {A : DiskA} {h : Heap}
theorem rrename_spec {fr tn : Bytes} {Q : Int → PP} (P : RD B w A h) (hB : B ≤ h.size) (hn : A.now.length ≤ 1000000000) (hnl : tn.length ≤ 1000000000) (h2 : A.chgs.length < 1000000000)
    (hQ : ∀ h', RD B w (A.rename fr tn).2 h' → Keep B MR h h' → Q ((A.rename fr tn).1 : Int) h') : ref05_Disk_Rename.C (some ⟨w, 0, none⟩) fr tn Q h := by
  obtain ⟨fsl, dsl, raw, p, ok⟩ := P
  have okc := rename_ok ok fr tn h2
  unfold DiskA.rename at hQ okc
  apply ref05_Disk_Rename.ok
  unfold ref05_Disk_Rename.F
  rw [nilP_some]
  refine ld_loc (s := .bool) (x := A.off) p.cell rfl ?_
  cases hoff : A.off with
  | true =>
    rw [hoff, if_pos rfl] at hQ
    rw [ifB_true]
    exact hQ h ⟨fsl, dsl, raw, p, ok⟩ (Keep.refl _ _ _)
  | false =>
    rw [hoff, if_neg (by decide)] at hQ okc
    rw [ifB_false]
    refine rright_spec (by omega) ?_
    cases hr : rightB tn with
    | false =>
      rw [hr, if_neg (by decide)] at hQ
      rw [ifB_of_true (by rfl)]
      exact hQ h ⟨fsl, dsl, raw, p, ok⟩ (Keep.refl _ _ _)
    | true =>
      rw [hr, if_pos rfl] at hQ okc
      rw [ifB_of_false (by rfl)]
      refine find_spec p ok hn ?_
      cases hf : findD A.now fr with
      | none =>
        rw [hf] at hQ
        dsimp only
        rw [ifB_of_true (by rfl)]
        exact hQ h ⟨fsl, dsl, raw, p, ok⟩ (Keep.refl _ _ _)
      | some k =>
        rw [hf] at hQ okc
        dsimp only at hQ okc ⊢
        have hfr : fr ≠ [] := by
          have hri := ok.now.right _ (findD_some hf)
          rintro rfl
          cases hri
        rw [ifB_of_false (by simp)]
        refine goes_spec p ok.fuse hoff fun h3 p3 o3 => ?_
        have k3 : Keep B MR h h3 := p.keepSet o3
        have hz3 := k3.size
        cases hbo : A.burn.off with
        | true =>
          have hQ : ∀ h', RD B w A.burn h' → Keep B MR h h' → Q (7 : Nat) h' := by
            intro h' r kk
            have := hQ h'
            unfold DiskA.op at this
            rw [hbo, if_pos rfl, if_pos rfl] at this
            split at this <;> exact this r kk
          rw [ifB_of_true (by rfl)]
          exact hQ h3 ⟨fsl, dsl, raw, p3, ok.burn⟩ k3
        | false =>
          rw [ifB_of_false (by rfl)]
          refine ifB_of (fun he => ?_) (fun he => ?_)
          · have hne : fr ≠ tn := by simpa using he
            rw [if_neg hne] at hQ okc
            unfold DiskA.op at hQ okc
            rw [hbo, if_neg (by decide)] at hQ okc
            have hbn := (burn_room A).2.2.2
            have hnow := burn_now A
            have htn : tn ≠ [] := by rintro rfl; cases hr
            have happ : applyC A.burn.now ⟨fr, tn, k⟩ = insD (tn, k) (without (without A.now fr) tn) := by
              unfold applyC
              rw [if_neg htn, if_neg hfr, hnow]
            have fin : ∀ (s' : Sl) (B' : Nat) (h6 h7 : Heap), Own B' 155 2 encN h6 s' (insD (tn, k) (without (without A.now fr) tn)) → Ext h3 h6 → Ext h6 h7 → Sees 1 (fun s => [encSl s]) h7 ⟨some ⟨h6.size, 0, none⟩, 1, 1⟩ [s'] →
                appP 152 1 24 #[.slice none 0 0] dsl.p dsl.len dsl.cap (.slice (some ⟨h6.size, 0, none⟩) 1 1) (fun (p21 : Option Addr) (k22 c23 : Nat) =>
                          nilP (some ⟨w, 0, none⟩) fun (a24 : Addr) =>
                          stP (.slice) (a24.add 2) (⟨p21, k22, c23⟩ : Sl) (
                          Q (0 : Int))) h7 := by
              intro s' B' h6 h7 o6 u36 u67 s7
              have p7 := p3.ext (u36.trans u67)
              have hr' := p7.rlen
              have hz6 := u36.size
              have hz7 := u67.size
              refine app_sl (t := ⟨some ⟨h6.size, 0, none⟩, 1, 1⟩) (enc := fun s => [encSl s]) (fun _ => rfl) (fun x v hv => by simp at hv; subst hv; rfl) rfl p7.dirs s7 (by omega) (by rw [hr', hbn]; simp; omega) fun dsl' h8 own8 b8 g8 => ?_
              have hdw : dsl.p.map (·.block) ≠ some w := p7.dirs.rowne p7.cell (by decide)
              have cell8 := p7.cell.but b8 hdw
              rw [nilP_some]
              refine st_loc (s := .slice) cell8 (by simp) (by decide) fun h9 l9 o9 => ?_
              obtain ⟨p9, k9⟩ := p7.addDir (c := ⟨fr, tn, k⟩) b8 own8 (by rw [happ]; exact (o6.view encN_len).ext u67) (new_ne (h1 := h8) g8 hdw p7.cell.lt) o9 l9
              exact hQ h9 ⟨fsl, dsl', _, p9, okc⟩ ((k3.trans ((u36.trans u67).keep _ _)).trans k9)
            have hw1 : (without A.now fr).length ≤ 1000000000 := Nat.le_trans (without_len _ _) hn
            have hw2 : (without (without A.now fr) tn).length ≤ 1000000000 := Nat.le_trans (without_len _ _) hw1
            -- with, and what is behind it
            have fin2 : ∀ (s2 : Sl) (B' : Nat) (h5 : Heap), Own B' 155 2 encN h5 s2 (without (without A.now fr) tn) → Ext h3 h5 →
                (ref05_with.C s2 tn (k : Int) fun (l12 : Sl) =>
                        withS (fun h' => Ext h3 h') (
                        newP 152 [.slice l12.p l12.len l12.cap] fun (a13 : Addr) =>
                        withS (fun h' => Ext h3 h') (
                        appP 152 1 24 #[.slice (none : Option Addr) 0 0] dsl.p dsl.len dsl.cap (.slice (some a13) 1 1) fun (p14 : Option Addr) (k15 c16 : Nat) =>
                        nilP (some ⟨w, 0, none⟩) fun (a17 : Addr) =>
                        stP (.slice) (a17.add 2) (⟨p14, k15, c16⟩ : Sl) (
                        Q (0 : Int))))) h5 := by
              intro s2 B' h5 o5 u35
              refine with_spec (x := (tn, k)) (o5.sees encN_len) hw2 fun s' h6 o6 u6 => with_of (u35.trans u6) ?_
              refine newP_sees (k := 1) (enc := fun s => [encSl s]) (xs := [s']) (fun _ => rfl) rfl rfl fun h7 u7 z7 s7 => with_of ((u35.trans u6).trans u7) ?_
              exact fin s' _ h6 h7 o6 (u35.trans u6) u7 s7
            refine draw_ext ?_
            rw [nilP_some]
            refine ldG_ext (s := .slice) (x := dsl) (p3.cell.cell (n := 2) rfl) ?_
            have E0 : Ext h3 h3 := Ext.refl _
            refine ⟨?_, with_of E0 ?_⟩
            · refine now_spec p3 ok.burn.nchgs fun s hv _ => with_of E0 ?_
              rw [hnow] at hv
              refine ⟨?_, with_of E0 ?_⟩
              · refine without_spec hv.sees hn fun s1 h4 o4 u4 => with_of u4 ⟨?_, with_of u4 ?_⟩
                · refine without_spec (o4.sees encN_len) hw1 fun s2 h5 o5 u5 => with_of (u4.trans u5) (with_of (u4.trans u5) ?_)
                  exact fin2 s2 _ h5 o5 (u4.trans u5)
                · refine without_spec (o4.sees encN_len) hw1 fun s2 h5 o5 u5 => with_of (u4.trans u5) ?_
                  exact fin2 s2 _ h5 o5 (u4.trans u5)
              · refine without_spec hv.sees hn fun s1 h4 o4 u4 => with_of u4 ?_
                refine without_spec (o4.sees encN_len) hw1 fun s2 h5 o5 u5 => with_of (u4.trans u5) ?_
                exact fin2 s2 _ h5 o5 (u4.trans u5)
            · refine now_spec p3 ok.burn.nchgs fun s hv _ => with_of E0 ?_
              rw [hnow] at hv
              refine without_spec hv.sees hn fun s1 h4 o4 u4 => with_of u4 ?_
              refine without_spec (o4.sees encN_len) hw1 fun s2 h5 o5 u5 => with_of (u4.trans u5) ?_
              exact fin2 s2 _ h5 o5 (u4.trans u5)
          · have heq : fr = tn := by simpa using he
            rw [if_pos heq] at hQ
            unfold DiskA.op at hQ
            rw [hbo, if_neg (by decide)] at hQ
            exact hQ h3 ⟨fsl, dsl, raw, p3, ok.burn⟩ k3
end
end Go.Proofs.W
end
section
set_option maxRecDepth 100000
set_option linter.unusedVariables false
namespace Go.Proofs.W
open Go Go.Shal Go.Proofs Go.M
/-- Bytes of a string in new memory, that may be turned. -/
def RowF (b : Nat) (l : Bytes) (h : Heap) : Prop := ∃ (vs : List Value) (cap : Nat), h[b]? = some (.cells vs.toArray 5 (cap, cap + 1)) ∧ l.length ≤ cap ∧ vs.length = cap ∧ vs.take l.length = byteCells l
theorem ofStr_row {l : Bytes} {h : Heap} {K : Option Addr → Nat → Nat → PP} (hk : ∀ c h', Ext h h' → h'.size = h.size + 1 → RowF h.size l h' → K (some ⟨h.size, 0, none⟩) l.length c h') : ofStrP 5 l K h := fun cap hcap => by
  refine hk cap _ (Ext.push _ _) (by simp) ⟨byteCells l ++ List.replicate (cap - l.length) (Value.int .u8 0), cap, getElem?_push_new _ _, hcap, by simp [byteCells]; omega, ?_⟩
  rw [← byteCells_length l, List.take_left]
theorem RowF.get {b i : Nat} {l : Bytes} {h : Heap} {c : UInt8} (r : RowF b l h) (hc : l[i]? = some c) : hcell h ((⟨b, 0, none⟩ : Addr).add i) = some (.int .u8 (c.toNat : Int)) := by
  obtain ⟨vs, cap, h1, h2, h3, h4⟩ := r
  have hi : i < l.length := (List.getElem?_eq_some_iff.1 hc).1
  rw [add_mk, hcell_cells h1]
  have : (vs.take l.length)[i]? = some (.int .u8 (c.toNat : Int)) := by rw [h4]; simp [byteCells, hc]
  rw [List.getElem?_take, if_pos hi] at this
  simpa using this
theorem RowF.st {b i : Nat} {l : Bytes} {h : Heap} {c : UInt8} {v : Int} {K : PP} (r : RowF b l h) (hi : i < l.length) (hv : v = (c.toNat : Int)) (hk : ∀ h', RowF b (l.set i c) h' → Only b h h' → K h') : stP (.int .u8) ((⟨b, 0, none⟩ : Addr).add i) v K h := by
  subst hv
  obtain ⟨vs, cap, h1, h2, h3, h4⟩ := r
  refine ⟨⟨⟨vs[i]'(by omega), ?_⟩, ?_, trivial⟩, ?_⟩
  · rw [add_mk, hcell_cells h1]
    simp
  · rw [add_mk]
    simp [hfrozen, h1]
    omega
  · rw [add_mk, Nat.zero_add]
    refine hk _ ⟨vs.set i (.int .u8 (c.toNat : Int)), cap, ?_, by simpa using h2, by simpa using h3, ?_⟩ ⟨by simp, fun n hn => hset_other (Ne.symm hn)⟩
    · rw [hset_at h1]
      simp
      rfl
    · rw [List.length_set, List.take_set, h4]
      unfold byteCells
      rw [List.map_set]
theorem RowF.bytes {b : Nat} {l : Bytes} {h : Heap} {K : Bytes → PP} (r : RowF b l h) (hk : K l h) : bytesP (some ⟨b, 0, none⟩) l.length K h :=
  ⟨l, ⟨rfl, fun i v hv => r.get hv⟩, hk⟩
theorem rleft_spec {B k : Nat} {tail : Bytes} {c : CrashV} {ks ss : Sl} {h : Heap} {Q : Bytes → PP} (ht : tail.length ≤ 1048576) (C : CrashAt B h c ks ss) (hk : k < 4611686018427387904)
    (hQ : ∀ h', Ext h h' → Q (left tail c k) h') : ref05_Left.C tail c.names ks ss (k : Int) Q h := by
  apply ref05_Left.ok
  unfold ref05_Left.F
  refine newP_loc fun h1 u1 z1 l1 => ?_
  have C1 := C.ext u1
  have kl := C.keep.sees.len
  have sl := C.spoil.sees.len
  refine ld_loc (s := .slice) (x := ks) l1 rfl ?_
  refine ifB_of (fun hb => ?_) (fun hb => ?_)
  · have hkl : ¬ k < c.keep.length := by have := of_decide_eq_true hb; omega
    have := hQ h1 u1
    unfold left at this
    rw [List.getElem?_eq_none (by omega)] at this
    exact this
  · have hkl : k < c.keep.length := by have := of_decide_eq_false hb; omega
    have hget := List.getElem?_eq_getElem hkl
    refine ld_loc (s := .slice) (x := ks) l1 rfl ?_
    refine Sees.idx1 (enc := encI) C1.keep.sees rfl hget fun a ha => ?_
    refine ld_of (s := .int .i64) (x := c.keep[k]) ha ?_
    refine held_spec ?_
    rw [held_nat]
    generalize hm : min c.keep[k].toNat tail.length = m
    have hml : m ≤ tail.length := by omega
    have hq : ∀ h' r, Ext h h' → r = (match c.spoil[k]? with
        | none => tail.take m
        | some (a, mask) => if m = 0 then [] else turn mask ((Int.emod a m).toNat) (tail.take m)) → Q r h' := by
      intro h' r u hr
      have := hQ h' u
      unfold left at this
      rw [hget] at this
      dsimp only at this
      rw [hm] at this
      rw [hr]
      cases hx : c.spoil[k]? with
      | none => rw [hx] at this; exact this
      | some q => rw [hx] at this; exact this
    refine sliceStr_of (a := 0) (b := m) (t := tail.take m) rfl rfl (by omega) hml (by simp) ?_
    have htl : (tail.take m).length = m := by rw [List.length_take]; omega
    refine ofStr_row fun cc h2 u2 z2 r2 => ?_
    have l2 := l1.ext u2
    have C2 := C1.ext u2
    refine join_b (decide (m = 0 ∨ ¬ k < c.spoil.length)) (fun h' => h' = h2) ?_ ?_
    · refine ifB_of (fun hb => ?_) (fun hb => ?_)
      · have : m = 0 := by have : (m : Int) = 0 := by simpa using hb
                           omega
        exact ⟨by simp [this], rfl⟩
      · have hm0 : m ≠ 0 := by intro he; rw [he] at hb; simp at hb
        refine ld_loc (s := .slice) (x := ss) l2 rfl ⟨?_, rfl⟩
        rw [decide_eq_decide]
        omega
    · rintro h2 rfl
      refine ifB_of (fun hb => ?_) (fun hb => ?_)
      · have hb := of_decide_eq_true hb
        refine r2.bytes ?_
        refine hq _ _ (u1.trans u2) ?_
        cases hx : c.spoil[k]? with
        | none => rfl
        | some q =>
          have : k < c.spoil.length := (List.getElem?_eq_some_iff.1 hx).1
          have hm0 : m = 0 := by omega
          dsimp only
          rw [if_pos hm0, hm0, List.take_zero]
      · have hb := of_decide_eq_false hb
        have hm0 : m ≠ 0 := by omega
        have hks : k < c.spoil.length := by omega
        have hgs := List.getElem?_eq_getElem hks
        obtain ⟨sp1, sp2, sp3⟩ := C.spot _ (List.getElem_mem hks)
        refine ld_loc (s := .slice) (x := ss) l2 rfl ?_
        refine Sees.idx (enc := encP) (fun _ => rfl) C2.spoil.sees rfl hgs fun a ha => ?_
        refine ld_of (s := .int .i64) (x := c.spoil[k].1) (ha 0 _ rfl) ⟨by omega, ?_⟩
        generalize hat : (Int.emod c.spoil[k].1 (m : Int)).toNat = at_
        have hem1 : 0 ≤ Int.emod c.spoil[k].1 (m : Int) := Int.emod_nonneg _ (by omega)
        have hem2 : Int.emod c.spoil[k].1 (m : Int) < m := Int.emod_lt_of_pos _ (by omega)
        have hatm : at_ < m := by omega
        have e1 : Int.tmod c.spoil[k].1 (m : Int) = c.spoil[k].1 - (m : Int) * Int.tdiv c.spoil[k].1 (m : Int) := by have := Int.mul_tdiv_add_tmod c.spoil[k].1 (m : Int); omega
        have r1 := Int.tmod_lt_of_pos c.spoil[k].1 (show (0 : Int) < (m : Int) by omega)
        have r2' := Int.lt_tmod_of_pos c.spoil[k].1 (show (0 : Int) < (m : Int) by omega)
        have em : ∀ q : Int, Int.emod (c.spoil[k].1 + (m : Int) * q) (m : Int) = Int.emod c.spoil[k].1 (m : Int) := fun q => Int.add_mul_emod_self_left _ _ _
        refine join_1 (s := .int .i64) (fun x h' => x = (at_ : Int) ∧ h' = h2) ?_ ?_
        · refine ifB_of (fun hb => ?_) (fun hb => ?_)
          · have hneg := of_decide_eq_true hb
            refine ⟨?_, rfl⟩
            rw [wi (by omega) (by omega)]
            have h1 := em (1 - Int.tdiv c.spoil[k].1 (m : Int))
            have h2 : c.spoil[k].1 + (m : Int) * (1 - Int.tdiv c.spoil[k].1 (m : Int)) = Int.tmod c.spoil[k].1 (m : Int) + (m : Int) := by rw [Int.mul_sub, Int.mul_one]; omega
            rw [h2] at h1
            have h3 : Int.emod (Int.tmod c.spoil[k].1 (m : Int) + (m : Int)) (m : Int) = Int.tmod c.spoil[k].1 (m : Int) + (m : Int) := Int.emod_eq_of_lt (by omega) (by omega)
            have : Int.tmod c.spoil[k].1 (m : Int) + (m : Int) = (at_ : Int) := by omega
            exact this
          · have hpos := of_decide_eq_false hb
            refine ⟨?_, rfl⟩
            have h1 := em (- Int.tdiv c.spoil[k].1 (m : Int))
            have h2 : c.spoil[k].1 + (m : Int) * (- Int.tdiv c.spoil[k].1 (m : Int)) = Int.tmod c.spoil[k].1 (m : Int) := by rw [Int.mul_neg]; omega
            rw [h2] at h1
            have h3 : Int.emod (Int.tmod c.spoil[k].1 (m : Int)) (m : Int) = Int.tmod c.spoil[k].1 (m : Int) := Int.emod_eq_of_lt (by omega) (by omega)
            have : Int.tmod c.spoil[k].1 (m : Int) = (at_ : Int) := by omega
            exact this
        · rintro x h2 ⟨rfl, rfl⟩
          refine ld_loc (s := .slice) (x := ss) l2 rfl ?_
          refine Sees.idx (enc := encP) (fun _ => rfl) C2.spoil.sees rfl hgs fun a ha => ?_
          refine ld_of (s := .int .u32) (x := (c.spoil[k].2 : Int)) (ha 1 _ rfl) ?_
          refine ⟨fun mk i h' => ∃ n : Nat, n ≤ min 4 (m - at_) ∧ i = ((at_ + n : Nat) : Int) ∧ mk = ((c.spoil[k].2 / 256 ^ n : Nat) : Int) ∧ RowF h1.size (trn c.spoil[k].2 at_ n (tail.take m)) h' ∧ Only h1.size h2 h', fun _ i _ => m - i.toNat, ⟨0, by omega, rfl, (show (c.spoil[k].2 : Int) = ((c.spoil[k].2 / 256 ^ 0 : Nat) : Int) by simp), by rw [trn_zero]; exact r2, Only.refl _ _⟩, ?_⟩
          rintro ⟨mk, i, _⟩ h3 ⟨n, hn, hi, hmk, r3, o3⟩
          dsimp only at hi hmk r3 o3
          subst hi hmk
          dsimp only [unc]
          refine join_b (decide (n < min 4 (m - at_))) (fun h' => h' = h3) ?_ ?_
          · refine ifB_of (fun hb => ?_) (fun hb => ?_)
            · have := of_decide_eq_true hb
              refine ⟨?_, rfl⟩
              rw [wi (by omega) (by omega), decide_eq_decide]
              omega
            · have := of_decide_eq_false hb
              exact ⟨by symm; rw [decide_eq_false_iff_not]; omega, rfl⟩
          · rintro h3 rfl
            refine ifB_of (fun hb => ?_) (fun hb => ?_)
            · have hn1 := of_decide_eq_true hb
              have hidx : at_ + n < (tail.take m).length := by omega
              have hg2 : (tail.take m)[at_ + n]? = some (tail.take m)[at_ + n] := List.getElem?_eq_getElem hidx
              rw [htl]
              refine idx_const (k := at_ + n) rfl (by omega) ?_
              rw [Nat.mul_one]
              refine ld_of (s := .int .u8) (x := ((tail.take m)[at_ + n].toNat : Int)) (r3.get (trn_get hg2)) ⟨by decide, ?_⟩
              refine idx_const (k := at_ + n) rfl (by omega) ?_
              rw [Nat.mul_one]
              have hdl : c.spoil[k].2 / 256 ^ n ≤ c.spoil[k].2 := Nat.div_le_self _ _
              have exor : xor2I .u8 ((tail.take m)[at_ + n].toNat : Int) (IntKind.wrap .u8 (Int.tmod ((c.spoil[k].2 / 256 ^ n : Nat) : Int) (256 : Int))) = (((tail.take m)[at_ + n] ^^^ UInt8.ofNat (c.spoil[k].2 / 256 ^ n)).toNat : Int) := by
                rw [show (256 : Int) = ((256 : Nat) : Int) from rfl, tmod_nat, w8n, u8_eq (a := c.spoil[k].2 / 256 ^ n % 256) (b := c.spoil[k].2 / 256 ^ n) (by omega), xor8 (by have := (tail.take m)[at_ + n].toNat_lt; omega) (by have := (UInt8.ofNat (c.spoil[k].2 / 256 ^ n)).toNat_lt; omega), UInt8.toNat_xor]
              have ew : IntKind.wrap .u32 ((c.spoil[k].2 / 256 ^ n / 256 : Nat) : Int) = ((c.spoil[k].2 / 256 ^ n / 256 : Nat) : Int) := by
                generalize c.spoil[k].2 / 256 ^ n = z at hdl
                exact w32 (by omega) (by omega)
              refine r3.st (i := at_ + n) (by rw [trn_len]; exact hidx) exor fun h4 r4 o4 => ⟨by decide, ?_⟩
              rw [show (256 : Int) = ((256 : Nat) : Int) from rfl, tdiv_nat, ew, wi (by omega) (by omega)]
              refine ⟨⟨n + 1, by omega, (show ((at_ + n : Nat) : Int) + 1 = ((at_ + (n + 1) : Nat) : Int) by omega), (show ((c.spoil[k].2 / 256 ^ n / 256 : Nat) : Int) = ((c.spoil[k].2 / 256 ^ (n + 1) : Nat) : Int) by rw [Nat.div_div_eq_div_mul, ← Nat.pow_succ]), ?_, o3.trans o4⟩, (show m - (((at_ + n : Nat) : Int) + 1).toNat < m - (((at_ + n : Nat) : Int)).toNat by omega)⟩
              rw [trn_succ _ _ _ _ _ hg2]
              exact r4
            · have hn1 : n = min 4 (m - at_) := by have := of_decide_eq_false hb; omega
              subst hn1
              have hfin := trn_final (mask := c.spoil[k].2) (at_ := at_) (m := m) (k := 0) (l := tail.take m) (by omega) hatm
              rw [Nat.zero_add, Nat.zero_add, List.take_zero, List.nil_append, List.drop_zero, List.take_take, Nat.min_self] at hfin
              have htrn : trn c.spoil[k].2 at_ (min 4 (m - at_)) (tail.take m) = turn c.spoil[k].2 at_ (tail.take m) := by
                have hh : (trn c.spoil[k].2 at_ (min 4 (m - at_)) (tail.take m)).take m = trn c.spoil[k].2 at_ (min 4 (m - at_)) (tail.take m) := List.take_of_length_le (by rw [trn_len, htl]; exact Nat.le_refl _)
                rw [hh] at hfin
                exact hfin
              rw [htrn] at r3
              have htl2 : (turn c.spoil[k].2 at_ (tail.take m)).length = (tail.take m).length := by simp [turn]
              have hrb := r3.bytes (K := Q) (h := h3)
              rw [htl2] at hrb
              refine hrb (hq _ _ (u1.trans ((u2.up h1.size).trans (o3.up (Nat.le_refl _))).ext) ?_)
              rw [hgs]
              dsimp only
              rw [if_neg hm0, hat]
end Go.Proofs.W
end
section
set_option maxRecDepth 100000
set_option linter.unusedVariables false
namespace Go.Proofs.W
open Go Go.Shal Go.Proofs Go.M
/-- A whole element of a row of files is set. -/
theorem own_idx_sts {B n : Nat} {h : Heap} {s : Sl} {xs : List FileV} {x x' : FileV} {i : Int} {K : PP} (ho : Own B 226 2 encR h s xs) (hi : i = (n : Int)) (hx : xs[n]? = some x)
    (hK : ∀ b h', s.p.map (·.block) = some b → B ≤ b → Own B 226 2 encR h' s (xs.set n x') → Only b h h' → K h') : idxP 2 s.p s.len i (fun a => stsP a [.str, .int .i64] (x'.data, (x'.kept : Int), ()) 0 K) h := by
  have key : idxP 2 s.p s.len i (fun a => stP .str (a.add 0) x'.data (stP (.int .i64) (a.add 1) (x'.kept : Int) K)) h := by
    subst hi
    have hlen := ho.len
    have hr := ho.row
    have hn := (List.getElem?_eq_some_iff.1 hx).1
    cases hp : s.p with
    | none => rw [hp] at hr; rw [hr.1] at hn; simp at hn
    | some a =>
      obtain ⟨b, o, sp⟩ := a
      rw [hp] at hr
      obtain ⟨e1, e2, e3, cs, e4, e5, e6, e7, e8⟩ := hr
      simp only at e1 e2 e3 e4
      subst e1 e2
      refine idx_const (k := n) rfl (by omega) ?_
      rw [add_add, add_add]
      have hl : Shal.Loc b 226 cs.toList h := e4
      refine st_loc (s := .str) hl (by rw [Array.length_toList]; omega) (by decide) fun h1 l1 o1 => ?_
      refine st_loc (s := .int .i64) l1 (by rw [List.length_set, Array.length_toList]; omega) (by decide) fun h2 l2 o2 => ?_
      refine hK b h2 (by rw [hp]; rfl) e3 ⟨by rw [List.length_set]; exact hlen, ?_⟩ (o1.trans o2)
      rw [hp]
      refine ⟨rfl, rfl, e3, _, l2, by simp [e5], by rw [List.length_set]; exact e6, ?_, e8⟩
      rw [List.length_set]
      show ((cs.toList.set (n * 2 + 0) (encS x'.data)).set (n * 2 + 1) (.int .i64 (x'.kept : Int))).take (xs.length * 2) = _
      rw [List.take_set, List.take_set, e7]
      rw [flat_set encR_len xs n 0 x ⟨x'.data, x.kept⟩ _ hx (by decide) rfl, flat_set encR_len _ n 1 ⟨x'.data, x.kept⟩ x' _ (by rw [List.getElem?_set_self hn]) (by decide) rfl, List.set_set]
  exact key
section
variable {B w : Nat} {A : DiskA} {h : Heap}
theorem rcrash_spec {c : CrashV} {ks ss : Sl} {Q : PP} (P : RD B w A h) (hB : B ≤ h.size) (C : CrashAt B h c ks ss) (hn : (A.dirAt (min c.names.toNat A.chgs.length)).length ≤ 1000000)
    (hQ : ∀ h', RD B w (A.crash c) h' → Keep B MR h h' → Q h') : ref05_Disk_Crash.C (some ⟨w, 0, none⟩) c.names ks ss Q h := by
  obtain ⟨fsl, dsl, raw, p, ok⟩ := P
  have okc := crash_ok ok c
  apply ref05_Disk_Crash.ok
  unfold ref05_Disk_Crash.F
  have hnc := ok.nchgs
  refine newP_loc fun h1 u1 z1 l1 => ?_
  have p1 := p.ext u1
  rw [nilP_some]
  refine st_loc (s := .bool) p1.cell (by simp) (by decide) fun h2 lc2 o2 => ?_
  have p2 : RDr B w { A with off := true } fsl dsl raw h2 := p1.set o2 lc2 rfl rfl rfl
  have hwne : h.size ≠ w := by have := p.cell.lt; omega
  have l2 := l1.only o2 hwne
  have k2 : Keep B MR h h2 := (u1.keep B MR).trans (p1.keepSet o2)
  have hdl := p2.dirs.len
  have hr := p2.rlen
  have hr' : raw.length = A.chgs.length + 1 := hr
  refine draw_ext ?_
  rw [nilP_some]
  refine ldG_ext (s := .slice) (x := dsl) (p2.cell.cell (n := 2) rfl) ?_
  refine ldG_ext (s := .int .i64) (x := c.names) (l2.cell (n := 0) rfl) ?_
  rw [nilP_some]
  refine ldG_ext (s := .slice) (x := dsl) (p2.cell.cell (n := 2) rfl) ?_
  rw [wi (by omega) (by omega), show (dsl.len : Int) - 1 = ((A.chgs.length : Nat) : Int) by omega]
  refine held_spec (with_ext (Ext.refl _) ?_)
  rw [held_nat]
  generalize hcnt : min c.names.toNat A.chgs.length = j
  have hj : j ≤ A.chgs.length := by omega
  rw [hcnt] at hn
  have hgr : raw[j]? = some raw[j] := List.getElem?_eq_getElem (by omega)
  have hv : View B 155 2 encN h2 raw[j] (A.dirAt j) := p2.each j _ hgr
  have okd := ok.dirAt j
  refine Sees.idx1 (enc := encSl) (Own.sees (enc := fun s => [encSl s]) (k := 1) (fun _ => rfl) p2.dirs) rfl hgr fun a ha => ?_
  refine ldG_ext (s := .slice) (x := raw[j]) ha ?_
  generalize hs0 : raw[j] = s0 at hv
  refine newP_loc fun h3 u3 z3 l3 => ?_
  have p3 := p2.ext u3
  rw [nilP_some]
  refine st_loc (s := .slice) p3.cell (by simp) (by decide) fun h4 l4 o4 => ?_
  have kk4 : Keep B (rowsOf [139]) h3 h4 := o4.keep p3.low p3.cell rfl
  have k4 : Keep B MR h h4 := (k2.trans (u3.keep _ _)).trans (p3.keepSet o4)
  have h3ne : h2.size ≠ w := by have := p2.cell.lt; omega
  have hz2 := k2.size
  have p4 : RDr B w { A with off := true, dir0 := A.dirAt j, chgs := [] } fsl ⟨some ⟨h2.size, 0, none⟩, 1, 1⟩ [s0] h4 := by
    refine ⟨p.low, l4, p3.files.keepM kk4 fun _ => rfl, ⟨rfl, rfl, rfl, by show B ≤ h2.size; omega, _, l3.only o4 h3ne, rfl, by simp, rfl, by show (1 : Nat) ≤ _; omega⟩, rfl, fun i s hs => ?_⟩
    have hi : i = 0 := by
      have := (List.getElem?_eq_some_iff.1 hs).1
      simp at this
      exact this
    subst hi
    simp at hs
    subst hs
    exact (hv.ext u3).keep kk4 (Nat.le_refl _) fun _ => rfl
  have l4v : Shal.Loc h.size 42 [.int .i64 c.names, .slice ks.p ks.len ks.cap, .slice ss.p ss.len ss.cap] h4 := (l2.ext u3).only o4 hwne
  have hv4 : View B 155 2 encN h4 s0 (A.dirAt j) := (hv.ext u3).keep kk4 (Nat.le_refl _) fun _ => rfl
  have hsl := hv4.sees.len
  refine ⟨fun n i h' => ∃ (t kk : Nat) (F : List FileV), i = (t : Int) ∧ n = (kk : Int) ∧ t ≤ (A.dirAt j).length ∧ kk ≤ t ∧ RDr B w { A with off := true, dir0 := A.dirAt j, chgs := [], files := F } fsl ⟨some ⟨h2.size, 0, none⟩, 1, 1⟩ [s0] h' ∧
      crashF c ((A.dirAt j).drop t) F kk = crashF c (A.dirAt j) A.files 0 ∧ F.length = A.files.length ∧ (∀ f ∈ F, f.kept ≤ f.data.length ∧ f.data.length ≤ 1048576) ∧ Keep B MR h4 h', fun _ i _ => (A.dirAt j).length - i.toNat,
    ⟨0, 0, A.files, rfl, rfl, by omega, by omega, p4, by simp, rfl, fun f hf => ⟨ok.kept f hf, ok.size f hf⟩, Keep.refl _ _ _⟩, ?_⟩
  rintro ⟨n, i, _⟩ h5 ⟨t, kk, F, hi, hn', ht, hkt, p5, hcr, hFl, hFok, k5⟩
  dsimp only at hi hn' p5 k5
  subst hi hn'
  have k05 : Keep B MR h h5 := k4.trans k5
  have hv5 : View B 155 2 encN h5 s0 (A.dirAt j) := hv4.keep k5 (Nat.le_refl _) fun _ => rfl
  refine ifB_of (fun hb => ?_) (fun hb => ?_)
  · have ht1 : t < (A.dirAt j).length := by have := of_decide_eq_true hb; dsimp only at this; omega
    have hget := List.getElem?_eq_getElem ht1
    have hqm : (A.dirAt j)[t] ∈ A.dirAt j := List.getElem_mem ht1
    have hdrop : (A.dirAt j).drop t = (A.dirAt j)[t] :: (A.dirAt j).drop (t + 1) := List.drop_eq_getElem_cons ht1
    generalize (A.dirAt j)[t] = q at hget hqm hdrop
    have hqf := okd.file q hqm
    have hqF : q.2 < F.length := by omega
    rw [hdrop, crashF_cons] at hcr
    have l5v : Shal.Loc h.size 42 [.int .i64 c.names, .slice ks.p ks.len ks.cap, .slice ss.p ss.len ss.cap] h5 := l4v.keep k5 (.inr rfl)
    have C5 : CrashAt B h5 c ks ss := C.keepM k05 (Nat.le_refl _) (fun _ => rfl) fun _ => rfl
    have hFd := fileD_eq hqF
    have hgF : F[q.2]? = some F[q.2] := List.getElem?_eq_getElem hqF
    have hf8 := hFok F[q.2] (List.getElem_mem hqF)
    rw [hFd] at hcr
    refine join_1 (s := .int .i64) (fun x h' => ∃ (kk' : Nat) (F' : List FileV), x = (kk' : Int) ∧ kk' ≤ t + 1 ∧ RDr B w { A with off := true, dir0 := A.dirAt j, chgs := [], files := F' } fsl ⟨some ⟨h2.size, 0, none⟩, 1, 1⟩ [s0] h' ∧
      crashF c ((A.dirAt j).drop (t + 1)) F' kk' = crashF c (A.dirAt j) A.files 0 ∧ F'.length = A.files.length ∧ (∀ f ∈ F', f.kept ≤ f.data.length ∧ f.data.length ≤ 1048576) ∧ Keep B MR h4 h') ?_ ?_
    · dsimp only
      refine draw_ext ?_
      rw [nilP_some]
      refine ldG_ext (s := .slice) (x := fsl) (p5.cell.cell (n := 1) rfl) ?_
      refine Sees.idx encN_len hv5.sees rfl hget fun a ha => ?_
      refine ldG_ext (s := .int .i64) (x := (q.2 : Int)) (ha 1 _ rfl) ?_
      refine Sees.idx encR_len (p5.files.sees encR_len) rfl hgF fun a ha => ?_
      refine ldsG_ext (l := [.str, .int .i64]) (F[q.2].data, (F[q.2].kept : Int), ()) ha ?_
      dsimp only [unc]
      refine newP_loc fun h6 u6 z6 l6 => with_ext u6 ?_
      refine sts_loc l6 rfl (by simp) fun h7 l7 o7 => ?_
      have u57 : Ext h5 h7 := ((u6.up _).trans (o7.up (Nat.le_refl _))).ext
      refine ld_loc (s := .int .i64) (x := (F[q.2].kept : Int)) l7 rfl ?_
      refine ld_loc (s := .str) (x := F[q.2].data) l7 rfl ?_
      refine ifB_of (fun hb => ?_) (fun hb => ?_)
      · have he : F[q.2].kept = F[q.2].data.length := by have : (F[q.2].kept : Int) = F[q.2].data.length := by simpa using hb
                                                         omega
        rw [if_pos he] at hcr
        exact ⟨kk, F, rfl, by omega, p5.ext u57, hcr, hFl, hFok, k5.trans (u57.keep _ _)⟩
      · have he : F[q.2].kept ≠ F[q.2].data.length := by intro he; rw [he] at hb; simp at hb
        rw [if_neg he] at hcr
        refine draw_ext ?_
        refine ldG_ext (s := .str) (x := F[q.2].data) (l7.cell (n := 0) rfl) ?_
        refine ldG_ext (s := .int .i64) (x := (F[q.2].kept : Int)) (l7.cell (n := 1) rfl) ?_
        refine sliceStr_of (a := 0) (b := F[q.2].kept) (t := F[q.2].data.take F[q.2].kept) rfl rfl (by omega) hf8.1 (by simp) ?_
        refine ldG_ext (s := .str) (x := F[q.2].data) (l7.cell (n := 0) rfl) ?_
        refine ldG_ext (s := .int .i64) (x := (F[q.2].kept : Int)) (l7.cell (n := 1) rfl) ?_
        refine sliceStr_of (a := F[q.2].kept) (b := F[q.2].data.length) (t := F[q.2].data.drop F[q.2].kept) rfl rfl hf8.1 (Nat.le_refl _) (by rw [List.take_length]) ?_
        have l7v := l5v.ext u57
        refine ldsG_ext (l := [.int .i64, .slice, .slice]) (c.names, ks, ss, ()) (fun n v hv => l7v.cell hv) ?_
        dsimp only [unc]
        refine rleft_spec (by rw [List.length_drop]; omega) (C5.ext u57) (by omega) fun h8 u8 => with_ext u8 ?_
        have hlt : (left (F[q.2].data.drop F[q.2].kept) c kk).length ≤ 1048576 := by
          have := left_len (F[q.2].data.drop F[q.2].kept) c kk
          rw [List.length_drop] at this
          omega
        refine ⟨by rw [List.length_take]; omega, ?_⟩
        have p8 := p5.ext (u57.trans u8)
        refine draw_ext ?_
        rw [nilP_some]
        refine ldG_ext (s := .slice) (x := fsl) (p8.cell.cell (n := 1) rfl) ?_
        refine Sees.idx encN_len (hv5.ext (u57.trans u8)).sees rfl hget fun a ha => ?_
        refine ldG_ext (s := .int .i64) (x := (q.2 : Int)) (ha 1 _ rfl) (with_ext (Ext.refl _) ?_)
        refine own_idx_sts (n := q.2) (x := F[q.2]) (x' := leftF F[q.2] c kk) p8.files rfl hgF fun b h9 hb hB' own9 o9 => ?_
        obtain ⟨p9, k9⟩ := p8.file hb hB' own9 o9
        rw [wi (by omega) (by omega)]
        refine ⟨kk + 1, F.set q.2 (leftF F[q.2] c kk), rfl, by omega, p9, hcr, by rw [List.length_set]; exact hFl, fun f hf => ?_, (k5.trans ((u57.trans u8).keep _ _)).trans k9⟩
        rcases List.mem_or_eq_of_mem_set hf with hf | rfl
        · exact hFok f hf
        · exact leftF_ok c kk hf8.2
    · rintro x h9 ⟨kk', F', rfl, hkk', p9, hcr', hFl', hFok', k9⟩
      dsimp only
      rw [wi (by omega) (by omega)]
      exact ⟨⟨t + 1, kk', F', rfl, rfl, by omega, hkk', p9, hcr', hFl', hFok', k9⟩, by dsimp only [unc]; omega⟩
  · have ht1 : t = (A.dirAt j).length := by have := of_decide_eq_false hb; dsimp only at this; omega
    subst ht1
    rw [List.drop_length] at hcr
    have hF : F = crashF c (A.dirAt j) A.files 0 := hcr
    refine hQ h5 ⟨fsl, ⟨some ⟨h2.size, 0, none⟩, 1, 1⟩, [s0], ?_, okc⟩ k05
    have e : A.crash c = { A with off := true, dir0 := A.dirAt j, chgs := [], files := F } := by
      unfold DiskA.crash
      rw [hF]
      simp only [hcnt]
    rw [e]
    exact p5
end
end Go.Proofs.W
end
