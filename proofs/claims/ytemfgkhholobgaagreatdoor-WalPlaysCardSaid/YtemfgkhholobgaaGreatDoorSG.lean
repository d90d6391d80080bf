/- Layer 5: the program's disk: its operations. Layer 5: the program's disk: its files turned and read. Layer 5: the program's disk: the other operations. Layer 5: the program's disk: a crash. Layer 5: the program's disk: a crash, whole. -/
import Derived.Test.YtemfgkhholobgaaGreatDoorSF
import Derived.Test.YtemfgkhholobgaaGreatDoorMB
import Derived.Test.YtemfgkhholobgaaGreatDoorSE
section
set_option maxRecDepth 100000
set_option linter.unusedVariables false
namespace Go.Proofs.W
open Go Go.Shal Go.Proofs Go.M
section
variable {B d : Nat} {A : DiskA} {h : Heap}
theorem fptr_app {fb : List Nat} {b i : Nat} (hi : i < fb.length) : fptr (fb ++ [b]) i = fptr fb i := by
  unfold fptr
  rw [List.getD_eq_getElem?_getD, List.getD_eq_getElem?_getD, List.getElem?_append_left hi]
theorem dirV_app {fb : List Nat} {b n : Nat} {l : Dir} (ok : OkDir n l) (hn : fb.length = n) : dirV (fb ++ [b]) l = dirV fb l := by
  unfold dirV
  refine List.map_congr_left fun p hp => ?_
  rw [fptr_app (by rw [hn]; exact ok.file p hp)]
theorem encG_app {fb : List Nat} {b n : Nat} {cs : List Chg} (hc : ∀ c ∈ cs, c.to = [] ∨ (rightB c.to = true ∧ c.f < n)) (hn : fb.length = n) : cs.flatMap (encG (fb ++ [b])) = cs.flatMap (encG fb) := by
  have : ∀ c ∈ cs, encG (fb ++ [b]) c = encG fb c := by
    intro c hm
    unfold encG
    split
    · rfl
    · rename_i hne
      rcases hc c hm with h | h
      · exact absurd h hne
      · rw [fptr_app (by rw [hn]; exact h.2)]
  clear hc
  induction cs with
  | nil => rfl
  | cons c cs ih => rw [List.flatMap_cons, List.flatMap_cons, this c (by simp), ih fun x hx => this x (by simp [hx])]
theorem own_enc {α : Type} {B T k : Nat} {enc enc' : α → List Value} {h : Heap} {s : Sl} {xs : List α} (ho : Own B T k enc h s xs) (he : xs.flatMap enc' = xs.flatMap enc) : Own B T k enc' h s xs := by
  refine ⟨ho.len, ?_⟩
  have := ho.row
  revert this
  cases s.p with
  | none => exact id
  | some a =>
    rintro ⟨h1, h2, h3, cs, h4, h5, h6, h7, h8⟩
    exact ⟨h1, h2, h3, cs, h4, h5, h6, by rw [he]; exact h7, h8⟩
variable {fb : List Nat} {fs : List Sl} {mn ml : Nat} {ch : Sl}
theorem more_now (A : DiskA) : A.more.now = A.now := rfl
/-- A new file. -/
theorem PDr.more (p : PDr B d A fb fs mn ml ch h) (ok : OkDisk A) {h' : Heap} (u : Ext h h') (hB : B ≤ h.size) (l : Shal.Loc h.size 167 [.slice none 0 0, .int .i64 0] h') : PDr B d A.more (fb ++ [h.size]) (fs ++ [⟨none, 0, 0⟩]) mn ml ch h' := by
  have P := p.ext u
  have hl := p.files.len
  have hs := p.files.lenS
  refine ⟨p.low, P.cell, ?_, ?_, p.ne, ?_, ?_⟩
  · rw [more_now, dirV_app ok.now hl]; exact P.names
  · rw [show A.more.dir0 = A.dir0 from rfl, dirV_app ok.dir0 hl]; exact P.last
  · exact own_enc P.chgs (encG_app ok.chgs hl)
  · have hml : A.more.files = A.files ++ [⟨[], 0⟩] := rfl
    rw [hml]
    refine ⟨by simp [hl], by simp [hs], ?_, ?_, ?_⟩
    · rw [List.nodup_append]
      refine ⟨p.files.nodup, by simp, fun a ha b hb => ?_⟩
      simp at hb
      subst hb
      obtain ⟨s, f, F, _⟩ := p.block_of ha
      have := F.cell.lt
      omega
    · intro i b s f hb hs' hf
      by_cases hi : i < A.files.length
      · rw [List.getElem?_append_left (by omega)] at hb hs' hf
        exact P.files.each i b s f hb hs' hf
      · have hi2 : i = A.files.length := by
          have := (List.getElem?_eq_some_iff.1 hf).1
          simp at this
          omega
        subst hi2
        rw [List.getElem?_append_right (by omega)] at hb hs' hf
        rw [hl] at hb
        rw [hs] at hs'
        simp at hb hs' hf
        subst hb hs' hf
        exact ⟨hB, l, Own.nil _ _ _ _ _⟩
    · intro i j s t hsi htj hne n hn hm
      have hi := (List.getElem?_eq_some_iff.1 hsi).1
      have hj := (List.getElem?_eq_some_iff.1 htj).1
      simp at hi hj
      by_cases h1 : i < fs.length
      · by_cases h2 : j < fs.length
        · rw [List.getElem?_append_left h1] at hsi
          rw [List.getElem?_append_left h2] at htj
          exact p.files.apart i j s t hsi htj hne n hn hm
        · rw [List.getElem?_append_right (by omega), show j - fs.length = 0 by omega] at htj
          simp at htj
          subst htj
          cases hm
      · rw [List.getElem?_append_right (by omega), show i - fs.length = 0 by omega] at hsi
        simp at hsi
        subst hsi
        cases hn
/-- The last file is forgotten. -/
theorem PDr.less {b : Nat} {s : Sl} (p : PDr B d A.more (fb ++ [b]) (fs ++ [s]) mn ml ch h) (ok : OkDisk A) (hl : fb.length = A.files.length) (hs : fs.length = A.files.length) : PDr B d A fb fs mn ml ch h := by
  have hml : A.more.files = A.files ++ [⟨[], 0⟩] := rfl
  refine ⟨p.low, p.cell, ?_, ?_, p.ne, ?_, ?_⟩
  · have := p.names
    rw [more_now, dirV_app ok.now hl] at this
    exact this
  · have := p.last
    rw [show A.more.dir0 = A.dir0 from rfl, dirV_app ok.dir0 hl] at this
    exact this
  · exact own_enc p.chgs (encG_app (fb := fb) (b := b) ok.chgs hl).symm
  · have F := p.files
    rw [hml] at F
    refine ⟨hl, hs, (List.nodup_append.1 F.nodup).1, fun i b' s' f hb hs' hf => ?_, fun i j s' t hsi htj => F.apart i j s' t (by rw [List.getElem?_append_left (List.getElem?_eq_some_iff.1 hsi).1]; exact hsi) (by rw [List.getElem?_append_left (List.getElem?_eq_some_iff.1 htj).1]; exact htj)⟩
    exact F.each i b' s' f (by rw [List.getElem?_append_left (List.getElem?_eq_some_iff.1 hb).1]; exact hb) (by rw [List.getElem?_append_left (List.getElem?_eq_some_iff.1 hs').1]; exact hs') (by rw [List.getElem?_append_left (List.getElem?_eq_some_iff.1 hf).1]; exact hf)
theorem create_spec {name : Bytes} {Q : Int → PP} (P : PD B d A h) (hB : B ≤ h.size) (h1 : A.files.length < 1000000000) (h2 : A.chgs.length < 1000000000)
    (hQ : ∀ h', PD B d (A.create name).2 h' → Keep B MP h h' → Q ((A.create name).1 : Int) h') : disk_Disk_Create.C (some ⟨d, 0, none⟩) name Q h := by
  obtain ⟨fb, fs, mn, ml, ch, p, ok⟩ := P
  have okc := create_ok ok name h1 h2
  rw [create_eq] at hQ okc
  apply disk_Disk_Create.ok
  unfold disk_Disk_Create.F
  refine file_spec p ok ?_
  cases hoff : A.off with
  | true =>
    rw [hoff, if_pos rfl] at hQ
    rw [if_pos rfl, ifB_of_false (by rfl), ifB_of_true (by rfl)]
    exact hQ h ⟨fb, fs, mn, ml, ch, p, ok⟩ (Keep.refl _ _ _)
  | false =>
    rw [hoff, if_neg (by decide)] at hQ okc
    rw [if_neg (by decide)]
    cases hf : findD A.now name with
    | some k =>
      rw [hf] at hQ
      dsimp only
      rw [ifB_of_true (by rfl)]
      exact hQ h ⟨fb, fs, mn, ml, ch, p, ok⟩ (Keep.refl _ _ _)
    | none =>
      rw [hf, if_neg (by simp)] at hQ okc
      dsimp only
      rw [ifB_of_false (by rfl), ifB_of_false (by rfl)]
      refine right_spec fun h3 u3 => ?_
      have p3 := p.ext u3
      cases hr : rightB name with
      | false =>
        rw [hr, if_neg (by decide)] at hQ
        rw [ifB_of_true (by rfl)]
        exact hQ h3 ⟨fb, fs, mn, ml, ch, p3, ok⟩ (u3.keep _ _)
      | true =>
        rw [hr, if_pos rfl] at hQ okc
        rw [ifB_of_false (by rfl)]
        refine newP_loc fun h4 u4 z4 l4 => ?_
        have hz3 := u3.size
        have p4 := p3.more ok u4 (by omega) l4
        have okm := ok.more h1
        have hlen := p.files.len
        have hne : name ≠ [] := by rintro rfl; cases hr
        refine changed_spec (A := A.more) (c := ⟨[], name, A.files.length⟩) p4 okm (by omega) hoff ?_ (fun hb h5 p5 k5 => ?_) (fun hb ch' h5 p5 k5 => ?_)
        · show some (⟨h3.size, 0, none⟩ : Addr) = if name = [] then none else some ⟨(fb ++ [h3.size]).getD A.files.length 0, 0, none⟩
          rw [if_neg hne]
          rw [List.getD_eq_getElem?_getD, List.getElem?_append_right (by omega), hlen, Nat.sub_self]
          rfl
        · rw [burn_off_more] at hb
          unfold DiskA.op at hQ
          rw [if_pos hb] at hQ
          rw [burn_more] at p5
          refine hQ h5 ⟨fb, fs, mn, ml, ch, p5.less ok.burn (by rw [(burn_room A).2.1]; exact hlen) (by rw [(burn_room A).2.1]; exact p.files.lenS), ok.burn⟩ ((u3.trans u4).keep _ _ |>.trans k5)
        · rw [burn_off_more] at hb
          unfold DiskA.op at hQ okc
          rw [if_neg (by rw [hb]; decide)] at hQ okc
          rw [burn_more] at p5
          have e : A.burn.files.length = A.files.length := by rw [(burn_room A).2.1]
          dsimp only at hQ okc
          rw [e] at hQ okc
          exact hQ h5 ⟨_, _, mn, ml, ch', p5, okc⟩ ((u3.trans u4).keep _ _ |>.trans k5)
theorem delete_spec {name : Bytes} {Q : Int → PP} (P : PD B d A h) (hB : B ≤ h.size) (h2 : A.chgs.length < 1000000000)
    (hQ : ∀ h', PD B d (A.delete name).2 h' → Keep B MP h h' → Q ((A.delete name).1 : Int) h') : disk_Disk_Delete.C (some ⟨d, 0, none⟩) name Q h := by
  obtain ⟨fb, fs, mn, ml, ch, p, ok⟩ := P
  have okc := delete_ok ok name h2
  unfold DiskA.delete at hQ okc
  apply disk_Disk_Delete.ok
  unfold disk_Disk_Delete.F
  refine file_spec p ok ?_
  cases hoff : A.off with
  | true =>
    rw [hoff, if_pos rfl] at hQ
    rw [if_pos rfl, ifB_of_true (by rfl)]
    exact hQ h ⟨fb, fs, mn, ml, ch, p, ok⟩ (Keep.refl _ _ _)
  | false =>
    rw [hoff, if_neg (by decide)] at hQ okc
    rw [if_neg (by decide)]
    cases hf : findD A.now name with
    | none =>
      rw [hf] at hQ
      dsimp only
      rw [ifB_of_true (by rfl)]
      exact hQ h ⟨fb, fs, mn, ml, ch, p, ok⟩ (Keep.refl _ _ _)
    | some k =>
      rw [hf] at hQ okc
      dsimp only at hQ okc ⊢
      rw [ifB_of_false (by rfl)]
      refine changed_spec (c := ⟨name, [], 0⟩) p ok hB hoff rfl (fun hb h5 p5 k5 => ?_) (fun hb ch' h5 p5 k5 => ?_)
      · unfold DiskA.op at hQ
        rw [if_pos hb] at hQ
        exact hQ h5 ⟨_, _, mn, ml, ch, p5, ok.burn⟩ k5
      · unfold DiskA.op at hQ okc
        rw [if_neg (by rw [hb]; decide)] at hQ okc
        exact hQ h5 ⟨_, _, mn, ml, ch', p5, okc⟩ k5
end
end Go.Proofs.W
end
section
set_option maxRecDepth 100000
set_option linter.unusedVariables false
namespace Go.Proofs.W
open Go Go.Shal Go.Proofs Go.M
section
variable {B d : Nat} {A : DiskA} {h : Heap} {fb : List Nat} {fs : List Sl} {mn ml : Nat} {ch : Sl}
theorem getD_of {α : Type} {l : List α} {i : Nat} {x z : α} (h : l[i]? = some x) : l.getD i z = x := by rw [List.getD_eq_getElem?_getD, h]; rfl
/-- The k-th file. -/
theorem PDr.file (p : PDr B d A fb fs mn ml ch h) {k : Nat} (hk : k < A.files.length) : ∃ b s, fb[k]? = some b ∧ fs[k]? = some s ∧ fb.getD k 0 = b ∧ FileAt B h b s (fileD A.files k) := by
  have h1 := p.files.len
  have h2 := p.files.lenS
  have e1 : fb[k]? = some fb[k] := List.getElem?_eq_getElem (by omega)
  have e2 : fs[k]? = some fs[k] := List.getElem?_eq_getElem (by omega)
  refine ⟨fb[k], fs[k], e1, e2, getD_of e1, ?_⟩
  rw [fileD_eq hk]
  exact p.files.each k _ _ _ e1 e2 (List.getElem?_eq_getElem hk)
/-- The k-th file is turned. -/
theorem PDr.setFile (p : PDr B d A fb fs mn ml ch h) {k b : Nat} {s s' : Sl} {f' : FileV} {h' : Heap} (hb : fb[k]? = some b) (hs : fs[k]? = some s)
    (hfr : ∀ n o, h[n]? = some o → n ≠ b → s.p.map (·.block) ≠ some n → h'[n]? = some o) (F' : FileAt B h' b s' f') (hs' : ∀ n, s'.p.map (·.block) = some n → s.p.map (·.block) = some n ∨ h.size ≤ n) : PDr B d (A.setFile k f') fb (fs.set k s') mn ml ch h' := by
  have h1 := p.files.len
  have h2 := p.files.lenS
  have hk : k < A.files.length := by have := (List.getElem?_eq_some_iff.1 hb).1; omega
  have F := p.files.each k b s A.files[k] hb hs (List.getElem?_eq_getElem hk)
  have hmap : ∀ {r : Nat} {ps : List (Bytes × Value)}, MapIs r ps h → MapIs r ps h' := fun {r ps} m => m.at_ fun o ho => hfr r o ho (map_ne m F.cell) (row_ne_map F.row m)
  refine ⟨p.low, hfr _ _ p.cell (ne_kind p.cell F.cell (by intro e; cases e)) (F.row.rowne p.cell (by decide)), hmap p.names, hmap p.last, p.ne, p.chgs.keep fun n cs hn _ hpn => hfr n _ hn ?_ fun he => row_ne_row F.row p.chgs (by decide) n he hpn, ?_⟩
  · rintro rfl
    exact p.chgs.rowne F.cell (by decide) hpn
  · have hlen : (A.setFile k f').files = A.files.set k f' := rfl
    rw [hlen]
    refine ⟨by simp [h1], by simp [h2], p.files.nodup, fun i b2 s2 f2 hb2 hs2 hf2 => ?_, fun i j s2 t2 hs2 ht2 hne n hn hm => ?_⟩
    · by_cases hi : i = k
      · subst hi
        rw [hb] at hb2
        cases hb2
        rw [List.getElem?_set_self (by omega)] at hs2
        rw [List.getElem?_set_self hk] at hf2
        cases hs2
        cases hf2
        exact F'
      · rw [List.getElem?_set_ne (Ne.symm hi)] at hs2 hf2
        have G := p.files.each i b2 s2 f2 hb2 hs2 hf2
        have hbne : b2 ≠ b := by
          rintro rfl
          exact hi ((List.getElem?_inj (List.getElem?_eq_some_iff.1 hb2).1 p.files.nodup).1 (by rw [hb2, hb]))
        refine G.frame (fun o ho => hfr b2 o ho hbne (by
          intro he
          have := F.row.rowne G.cell (by decide)
          exact this he)) fun n o hn ho => hfr n o ho ?_ ?_
        · rintro rfl
          exact G.row.rowne F.cell (by decide) hn
        · exact fun he => p.files.apart i k s2 s hs2 hs hi n hn he
    · have old : ∀ (i : Nat) (s2 : Sl), fs[i]? = some s2 → ∀ n, s2.p.map (·.block) = some n → n < h.size := by
        intro i s2 hs2 n hn
        obtain ⟨b2, f2, G, _⟩ := p.slice_of (List.mem_of_getElem? hs2)
        have hr := G.row.row
        cases hcp : s2.p with
        | none => rw [hcp] at hn; cases hn
        | some x =>
          rw [hcp] at hr hn
          obtain ⟨_, _, _, cs, h4', _⟩ := hr
          simp at hn
          rw [← hn]
          exact lt_of_some h4'
      by_cases hi : i = k
      · subst hi
        rw [List.getElem?_set_self (by omega)] at hs2
        cases hs2
        rw [List.getElem?_set_ne hne] at ht2
        rcases hs' n hn with hh | hh
        · exact p.files.apart i j s t2 hs ht2 hne n hh hm
        · have := old j t2 ht2 n hm; omega
      · rw [List.getElem?_set_ne (Ne.symm hi)] at hs2
        by_cases hj : j = k
        · subst hj
          rw [List.getElem?_set_self (by omega)] at ht2
          cases ht2
          rcases hs' n hm with hh | hh
          · exact p.files.apart i j s2 s hs2 hs hi n hn hh
          · have := old i s2 hs2 n hn; omega
        · rw [List.getElem?_set_ne (Ne.symm hj)] at ht2
          exact p.files.apart i j s2 t2 hs2 ht2 hne n hn hm
theorem sum_perm {l m : List Nat} (p : l.Perm m) : l.sum = m.sum := by
  induction p with
  | nil => rfl
  | cons x _ ih => simp [ih]
  | swap x y l => simp; omega
  | trans _ _ ih1 ih2 => exact ih1.trans ih2
theorem used_bound {A : DiskA} (ok : OkDisk A) : A.now.length ≤ A.dir0.length + A.chgs.length ∧ A.used ≤ 1048576 * A.now.length := by
  refine ⟨?_, ?_⟩
  · unfold DiskA.now
    have : ∀ (cs : List Chg) (l : Dir), (cs.foldl applyC l).length ≤ l.length + cs.length := by
      intro cs
      induction cs with
      | nil => intro l; simp
      | cons c cs ih =>
        intro l
        have h1 := ih (applyC l c)
        have h2 : (applyC l c).length ≤ l.length + 1 := by
          have hw := without_len l c.fr
          unfold applyC
          split
          · split <;> omega
          · have := (insD_perm (c.to, c.f) (without (if c.fr = [] then l else without l c.fr) c.to)).length_eq
            rw [this, List.length_cons]
            have := without_len (if c.fr = [] then l else without l c.fr) c.to
            have : (if c.fr = [] then l else without l c.fr).length ≤ l.length := by split <;> omega
            omega
        rw [List.foldl_cons, List.length_cons]
        omega
    exact this _ _
  · unfold DiskA.used usedD
    have : ∀ l : Dir, (∀ p ∈ l, p.2 < A.files.length) → (l.map fun p => (fileD A.files p.2).data.length).sum ≤ 1048576 * l.length := by
      intro l
      induction l with
      | nil => intro _; simp
      | cons p l ih =>
        intro hl
        have h1 := (ok.fileD (hl p (by simp))).2
        have h2 := ih fun q hq => hl q (by simp [hq])
        rw [List.map_cons, List.sum_cons, List.length_cons]
        omega
    exact this _ ok.now.file
theorem used_spec {Q : Int → PP} (p : PDr B d A fb fs mn ml ch h) (ok : OkDisk A) (hn : A.now.length ≤ 1000000000) (hQ : ∀ h', Ext h h' → Q (A.used : Int) h') : disk_Disk_Used.C (some ⟨d, 0, none⟩) Q h := by
  apply disk_Disk_Used.ok
  unfold disk_Disk_Used.F
  refine none_spec p ?_
  rw [ifB_of_false rfl, nilP_some]
  refine ld_loc (s := .map) (x := some mn) p.cell rfl ?_
  refine range_of p.names fun es clock h1 R u1 z1 i1 => ?_
  have p1 := p.ext u1
  -- the size of an entry's file
  have hent : ∀ e ∈ es.toList, ∃ k, k < A.files.length ∧ e.val = fptr fb k ∧ (keyB e, k) ∈ A.now := by
    intro e he
    have hm : kvB e ∈ dirV fb A.now := R.perm.mem_iff.1 (List.mem_map_of_mem he)
    obtain ⟨q, hq, hqe⟩ := List.mem_map.1 hm
    have h1 : q.1 = keyB e := congrArg Prod.fst hqe
    have h2 : fptr fb q.2 = e.val := congrArg Prod.snd hqe
    exact ⟨q.2, ok.now.file q hq, h2.symm, by rw [← h1]; exact hq⟩
  let sz : MapEntry → Nat := fun e => (fileD A.files ((findD A.now (keyB e)).getD 0)).data.length
  have hsz : ∀ e ∈ es.toList, ∃ b s, e.val = .pointer (some ⟨b, 0, none⟩) ∧ FileAt B h1 b s (fileD A.files ((findD A.now (keyB e)).getD 0)) := by
    intro e he
    obtain ⟨k, hk, hv, hm⟩ := hent e he
    obtain ⟨b, s, e1, e2, e3, F⟩ := p1.file hk
    refine ⟨b, s, ?_, ?_⟩
    · rw [hv]; unfold fptr; rw [e3]
    · rw [findD_of ok.now hm]; exact F
  have htot : (es.toList.map sz).sum = A.used := by
    unfold DiskA.used usedD
    have h1 : es.toList.map sz = (es.toList.map kvB).map fun q => (fileD A.files ((findD A.now q.1).getD 0)).data.length := by rw [List.map_map]; rfl
    rw [h1, sum_perm (R.perm.map _)]
    congr 1
    unfold dirV
    rw [List.map_map]
    refine List.map_congr_left fun q hq => ?_
    simp only [Function.comp]
    rw [findD_of ok.now (i := q.2) hq]
    rfl
  have hub := (used_bound ok).2
  refine ⟨fun n h' => ∃ seen m : Nat, ∃ sn : Array Nat, n = (m : Int) ∧ m + ((leftE es sn).toList.map sz).sum = A.used ∧ IterAt h.size mn es clock sn h' ∧ Up h.size h1 h' ∧ (leftE es sn).size = seen, fun n h' => match h'[h.size]? with
    | some (.mapIter _ _ sn _) => (leftE es sn).size
    | _ => 0, ⟨_, 0, #[], rfl, by rw [leftE_nil, Nat.zero_add]; exact htot, i1, Up.refl _ _, rfl⟩, ?_⟩
  rintro ⟨n, _⟩ h2 ⟨seen, m, sn, hn', hsum, i2, u2, hsn⟩
  dsimp only at hn' i2 u2
  subst hn'
  refine join_b (decide (leftE es sn ≠ #[])) (fun h' => (leftE es sn = #[] → h' = h2) ∧ (leftE es sn ≠ #[] → ∃ e ∈ (leftE es sn).toList, Only h.size h2 h' ∧ IterAt h.size mn es clock (sn.push e.born) h')) ?_ ?_
  · refine next_of R i2 (fun he => ⟨by simp [he], fun _ => rfl, fun hne => absurd he hne⟩) fun e he h3 o3 i3 => ⟨?_, fun hh => ?_, fun _ => ⟨e, he, o3, i3⟩⟩
    · symm
      rw [decide_eq_true_eq]
      intro hh
      rw [hh] at he
      simp at he
    · rw [hh] at he
      simp at he
  · rintro h3 ⟨c1, c2⟩
    refine ifB_of (fun hb => ?_) (fun hb => ?_)
    · obtain ⟨e, he, o3, i3⟩ := c2 (of_decide_eq_true hb)
      have hem := leftE_mem he
      obtain ⟨b, s, hv, F⟩ := hsz e hem
      have u3 : Up h.size h1 h3 := u2.trans (o3.up (Nat.le_refl _))
      refine entry_of R i3 hem hv ?_
      rw [nilP_some]
      have hbl : b ≠ h.size := by
        have := F.cell
        rintro rfl
        rw [Shal.Loc, i1.1] at this
        cases this
      have hblt : b < h.size := by
        have := F.cell.lt
        omega
      refine ld_loc (s := .slice) (x := s) (vs := [.slice s.p s.len s.cap, .int .i64 ((fileD A.files ((findD A.now (keyB e)).getD 0)).kept : Int)]) (u3.at' F.cell hblt) rfl ?_
      obtain ⟨ls, lz⟩ := left_sum sz R.stamps he
      have hse : s.len = sz e := F.row.len
      rw [hse, wi (by omega) (by omega)]
      refine ⟨⟨_, m + sz e, sn.push e.born, (show (m : Int) + (sz e : Int) = ((m + sz e : Nat) : Int) by omega), by rw [ls] at hsum; omega, i3, u3, rfl⟩, ?_⟩
      dsimp only [unc]
      rw [i3.1, i2.1]
      exact lz
    · have he : leftE es sn = #[] := Decidable.not_not.1 (of_decide_eq_false hb)
      have := c1 he
      subst this
      rw [he] at hsum
      simp at hsum
      dsimp only
      rw [hsum]
      refine hQ _ ((u1.up h.size).trans u2).ext
end
end Go.Proofs.W
end
section
set_option maxRecDepth 100000
set_option linter.unusedVariables false
namespace Go.Proofs.W
open Go Go.Shal Go.Proofs Go.M
section
variable {B d : Nat} {A : DiskA} {h : Heap}
theorem append_spec {name data : Bytes} {Q : Int → PP} (P : PD B d A h) (hB : B ≤ h.size) (hn : A.now.length ≤ 1000000000) (hd : data.length ≤ 1000000000)
    (hQ : ∀ h', PD B d (A.append name data).2 h' → Keep B MP h h' → Q ((A.append name data).1 : Int) h') : disk_Disk_Append.C (some ⟨d, 0, none⟩) name data Q h := by
  obtain ⟨fb, fs, mn, ml, ch, p, ok⟩ := P
  have okc := append_ok ok name data
  unfold DiskA.append at hQ okc
  apply disk_Disk_Append.ok
  unfold disk_Disk_Append.F
  refine file_spec p ok ?_
  cases hoff : A.off with
  | true =>
    rw [hoff, if_pos rfl] at hQ
    rw [if_pos rfl, ifB_of_true (by rfl)]
    exact hQ h ⟨fb, fs, mn, ml, ch, p, ok⟩ (Keep.refl _ _ _)
  | false =>
    rw [hoff, if_neg (by decide)] at hQ okc
    rw [if_neg (by decide)]
    cases hf : findD A.now name with
    | none =>
      rw [hf] at hQ
      dsimp only
      rw [ifB_of_true (by rfl)]
      exact hQ h ⟨fb, fs, mn, ml, ch, p, ok⟩ (Keep.refl _ _ _)
    | some k =>
      rw [hf] at hQ okc
      dsimp only at hQ okc ⊢
      rw [ifB_of_false (by rfl)]
      refine draw_ext ?_
      rw [nilP_some]
      refine ldG_ext (s := .int .i64) (x := (A.room : Int)) (p.cell.cell (n := 0) rfl) ?_
      refine used_spec p ok hn fun h2 u2 => with_ext u2 ?_
      have p2 := p.ext u2
      have hub := used_bound ok
      have hroom := ok.room
      rw [wi (by omega) (by omega)]
      by_cases hfull : A.room < A.used + data.length
      · rw [if_pos hfull] at hQ
        rw [ifB_of_true (by simp; omega)]
        exact hQ h2 ⟨fb, fs, mn, ml, ch, p2, ok⟩ (u2.keep _ _)
      · rw [if_neg hfull] at hQ okc
        rw [ifB_of_false (by simp; omega)]
        refine burns_spec p2 ok.fuse hoff fun h3 p3 o3 => ?_
        have k3 : Keep B MP h h3 := (u2.keep B MP).trans (p2.keepSet o3)
        cases hbo : A.burn.off with
        | true =>
          unfold DiskA.op at hQ
          rw [hbo, if_pos rfl] at hQ
          rw [if_pos rfl, ifB_of_true (by rfl)]
          exact hQ h3 ⟨fb, fs, mn, ml, ch, p3, ok.burn⟩ k3
        | false =>
          unfold DiskA.op at hQ okc
          rw [hbo, if_neg (by decide)] at hQ okc
          rw [if_neg (by decide), ifB_of_false (by rfl), nilP_some]
          obtain ⟨b1, b2, b3, b4⟩ := burn_room A
          have hk : k < A.burn.files.length := by rw [b2]; exact ok.now.file _ (findD_some hf)
          obtain ⟨b, s, e1, e2, e3, F⟩ := p3.file hk
          rw [e3]
          have hdl := (ok.burn.fileD hk).2
          refine ld_loc (s := .slice) (x := s) F.cell rfl ?_
          have hz3 := k3.size
          refine app_str (z := #[.int .u8 (0 : Int)]) rfl F.row (by omega) (by omega) fun s' h4 r4 b4' g4 => ?_
          rw [nilP_some]
          have hne : s.p.map (·.block) ≠ some b := F.row.rowne F.cell (by decide)
          have c4 := F.cell.but b4' hne
          refine st_loc (s := .slice) c4 (by simp) (by decide) fun h5 l5 o5 => ?_
          have hblt := F.cell.lt
          have hne' : s'.p.map (·.block) ≠ some b := by
            intro he
            cases hp : s'.p with
            | none => rw [hp] at he; cases he
            | some x =>
              rw [hp] at he
              simp at he
              rcases g4 x hp with hh | hh
              · rw [he] at hh; exact hne hh
              · omega
          have p5 := p3.setFile (s' := s') (f' := ⟨(fileD A.burn.files k).data ++ data, (fileD A.burn.files k).kept⟩) (h' := h5) e1 e2 (fun n o hn' hnb hns => by rw [o5.2 n hnb]; exact b4'.2 n o hn' hns)
            ⟨F.low, l5, r4.only o5 hne'⟩ (fun n hn' => by
              cases hp : s'.p with
              | none => rw [hp] at hn'; cases hn'
              | some x =>
                rw [hp] at hn'
                simp at hn'
                subst hn'
                exact g4 x hp)
          refine hQ h5 ⟨fb, _, mn, ml, ch, p5, okc⟩ ((k3.trans (But.keepO F.row b4' fun _ => rfl)).trans (o5.keep F.low c4 rfl))
theorem sync_spec {name : Bytes} {Q : Int → PP} (P : PD B d A h)
    (hQ : ∀ h', PD B d (A.sync name).2 h' → Keep B MP h h' → Q ((A.sync name).1 : Int) h') : disk_Disk_Sync.C (some ⟨d, 0, none⟩) name Q h := by
  obtain ⟨fb, fs, mn, ml, ch, p, ok⟩ := P
  have okc := sync_ok ok name
  unfold DiskA.sync at hQ okc
  apply disk_Disk_Sync.ok
  unfold disk_Disk_Sync.F
  refine file_spec p ok ?_
  cases hoff : A.off with
  | true =>
    rw [hoff, if_pos rfl] at hQ
    rw [if_pos rfl]
    refine joinT_dup ?_
    rw [ifB_of_false (by rfl)]
    dsimp only
    rw [ifB_of_false (by rfl)]
    exact hQ h ⟨fb, fs, mn, ml, ch, p, ok⟩ (Keep.refl _ _ _)
  | false =>
    rw [hoff, if_neg (by decide)] at hQ okc
    rw [if_neg (by decide)]
    cases hf : findD A.now name with
    | none =>
      rw [hf] at hQ
      dsimp only
      refine joinT_dup ?_
      rw [ifB_of_false (by rfl)]
      dsimp only
      rw [ifB_of_false (by rfl)]
      exact hQ h ⟨fb, fs, mn, ml, ch, p, ok⟩ (Keep.refl _ _ _)
    | some k =>
      rw [hf] at hQ okc
      dsimp only at hQ okc ⊢
      refine joinT_dup ?_
      rw [ifB_of_true (by rfl)]
      refine burns_spec p ok.fuse hoff fun h3 p3 o3 => ?_
      have k3 : Keep B MP h h3 := p.keepSet o3
      cases hbo : A.burn.off with
      | true =>
        unfold DiskA.op at hQ
        rw [hbo, if_pos rfl] at hQ
        rw [if_pos rfl]
        dsimp only
        rw [ifB_of_false (by rfl)]
        exact hQ h3 ⟨fb, fs, mn, ml, ch, p3, ok.burn⟩ k3
      | false =>
        unfold DiskA.op at hQ okc
        rw [hbo, if_neg (by decide)] at hQ okc
        rw [if_neg (by decide)]
        dsimp only
        rw [ifB_of_true (by rfl), nilP_some]
        obtain ⟨b1, b2, b3, b4⟩ := burn_room A
        have hk : k < A.burn.files.length := by rw [b2]; exact ok.now.file _ (findD_some hf)
        obtain ⟨b, s, e1, e2, e3, F⟩ := p3.file hk
        rw [e3]
        refine ld_loc (s := .slice) (x := s) F.cell rfl ?_
        rw [nilP_some]
        refine st_loc (s := .int .i64) F.cell (by simp) (by decide) fun h5 l5 o5 => ?_
        have hne : s.p.map (·.block) ≠ some b := F.row.rowne F.cell (by decide)
        have hsl := F.row.len
        rw [hsl] at l5
        have l5' : Shal.Loc b 167 [.slice s.p s.len s.cap, .int .i64 (((fileD A.burn.files k).data.length : Nat) : Int)] h5 := by rw [hsl]; exact l5
        have p5 := p3.setFile (s' := s) (f' := ⟨(fileD A.burn.files k).data, (fileD A.burn.files k).data.length⟩) (h' := h5) e1 e2 (fun n o hn' hnb hns => by rw [o5.2 n hnb]; exact hn')
          ⟨F.low, l5', F.row.only o5 hne⟩ (fun n hn' => .inl hn')
        refine hQ h5 ⟨fb, _, mn, ml, ch, p5, okc⟩ (k3.trans (o5.keep F.low F.cell rfl))
theorem rename_spec {fr tn : Bytes} {Q : Int → PP} (P : PD B d A h) (hB : B ≤ h.size) (h2 : A.chgs.length < 1000000000)
    (hQ : ∀ h', PD B d (A.rename fr tn).2 h' → Keep B MP h h' → Q ((A.rename fr tn).1 : Int) h') : disk_Disk_Rename.C (some ⟨d, 0, none⟩) fr tn Q h := by
  obtain ⟨fb, fs, mn, ml, ch, p, ok⟩ := P
  have okc := rename_ok ok fr tn h2
  unfold DiskA.rename at hQ okc
  apply disk_Disk_Rename.ok
  unfold disk_Disk_Rename.F
  refine file_spec p ok ?_
  cases hoff : A.off with
  | true =>
    rw [hoff, if_pos rfl] at hQ
    rw [if_pos rfl]
    refine joinT_dup ?_
    rw [ifB_of_false (by rfl), ifB_of_false (by rfl)]
    dsimp only
    rw [ifB_of_false (by rfl), ifB_of_true (by rfl)]
    exact hQ h ⟨fb, fs, mn, ml, ch, p, ok⟩ (Keep.refl _ _ _)
  | false =>
    rw [hoff, if_neg (by decide)] at hQ okc
    rw [if_neg (by decide)]
    cases hf : findD A.now fr with
    | none =>
      rw [hf] at hQ
      dsimp only
      refine joinT_dup ?_
      rw [ifB_of_false (by rfl), ifB_of_true (by rfl)]
      refine right_spec fun h3 u3 => ?_
      cases hr : rightB tn with
      | true =>
        rw [hr, if_pos rfl] at hQ
        try dsimp only
        rw [ifB_of_false (by rfl), ifB_of_true (by rfl)]
        exact hQ h3 ⟨fb, fs, mn, ml, ch, p.ext u3, ok⟩ (u3.keep _ _)
      | false =>
        rw [hr, if_neg (by decide)] at hQ
        try dsimp only
        rw [ifB_of_true (by rfl)]
        exact hQ h3 ⟨fb, fs, mn, ml, ch, p.ext u3, ok⟩ (u3.keep _ _)
    | some k =>
      rw [hf] at hQ okc
      dsimp only at hQ okc ⊢
      refine joinT_dup ?_
      rw [ifB_of_true (by rfl)]
      refine right_spec fun h3 u3 => ?_
      have p3 := p.ext u3
      have hz3 := u3.size
      cases hr : rightB tn with
      | false =>
        rw [hr, if_neg (by decide)] at hQ
        try dsimp only
        rw [ifB_of_true (by rfl)]
        exact hQ h3 ⟨fb, fs, mn, ml, ch, p3, ok⟩ (u3.keep _ _)
      | true =>
        rw [hr, if_pos rfl] at hQ okc
        dsimp only
        rw [ifB_of_false (by rfl), ifB_of_false (by rfl)]
        refine ifB_of (fun he => ?_) (fun he => ?_)
        · have he : fr = tn := by simpa using he
          rw [if_pos he] at hQ okc
          refine burns_spec p3 ok.fuse hoff fun h4 p4 o4 => ?_
          have k4 : Keep B MP h h4 := (u3.keep B MP).trans (p3.keepSet o4)
          unfold DiskA.op at hQ
          cases hbo : A.burn.off with
          | true =>
            rw [hbo, if_pos rfl] at hQ
            rw [if_pos rfl]
            exact hQ h4 ⟨fb, fs, mn, ml, ch, p4, ok.burn⟩ k4
          | false =>
            rw [hbo, if_neg (by decide)] at hQ
            rw [if_neg (by decide)]
            exact hQ h4 ⟨fb, fs, mn, ml, ch, p4, ok.burn⟩ k4
        · have hne : fr ≠ tn := by simpa using he
          rw [if_neg hne] at hQ okc
          have hto : tn ≠ [] := by rintro rfl; cases hr
          refine changed_spec (c := ⟨fr, tn, k⟩) p3 ok (by omega) hoff (by rw [if_neg hto]) (fun hb h5 p5 k5 => ?_) (fun hb ch' h5 p5 k5 => ?_)
          · unfold DiskA.op at hQ
            rw [if_pos hb] at hQ
            exact hQ h5 ⟨_, _, mn, ml, ch, p5, ok.burn⟩ ((u3.keep _ _).trans k5)
          · unfold DiskA.op at hQ okc
            rw [if_neg (by rw [hb]; decide)] at hQ okc
            exact hQ h5 ⟨_, _, mn, ml, ch', p5, okc⟩ ((u3.keep _ _).trans k5)
theorem dirSync_spec {Q : Int → PP} (P : PD B d A h) (hB : B ≤ h.size)
    (hQ : ∀ h', PD B d A.dirSync.2 h' → Keep B MP h h' → Q (A.dirSync.1 : Int) h') : disk_Disk_DirSync.C (some ⟨d, 0, none⟩) Q h := by
  obtain ⟨fb, fs, mn, ml, ch, p, ok⟩ := P
  have okc := dirSync_ok ok
  unfold DiskA.dirSync at hQ okc
  apply disk_Disk_DirSync.ok
  unfold disk_Disk_DirSync.F
  refine power_spec p ?_
  cases hoff : A.off with
  | true =>
    rw [hoff, if_pos rfl] at hQ
    rw [if_pos rfl, ifB_of_true (by rfl)]
    exact hQ h ⟨fb, fs, mn, ml, ch, p, ok⟩ (Keep.refl _ _ _)
  | false =>
    rw [hoff, if_neg (by decide)] at hQ okc
    rw [if_neg (by decide), ifB_of_false (by rfl)]
    refine burns_spec p ok.fuse hoff fun h3 p3 o3 => ?_
    have k3 : Keep B MP h h3 := p.keepSet o3
    unfold DiskA.op at hQ okc
    cases hbo : A.burn.off with
    | true =>
      rw [hbo, if_pos rfl] at hQ
      rw [if_pos rfl, ifB_of_true (by rfl)]
      exact hQ h3 ⟨fb, fs, mn, ml, ch, p3, ok.burn⟩ k3
    | false =>
      rw [hbo, if_neg (by decide)] at hQ okc
      rw [if_neg (by decide), ifB_of_false (by rfl), nilP_some]
      refine ld_loc (s := .map) (x := some mn) p3.cell rfl ?_
      refine clone_spec p3.names fun h4 u4 z4 m4 => ?_
      have p4 := p3.ext u4
      rw [nilP_some]
      refine st_loc (s := .map) p4.cell (by simp) (by decide) fun h5 l5 o5 => ?_
      rw [nilP_some]
      refine st_loc (s := .slice) l5 (by simp) (by decide) fun h6 l6 o6 => ?_
      have o := o5.trans o6
      have hz := k3.size
      refine hQ h6 ⟨fb, fs, mn, h3.size, ⟨none, 0, 0⟩, ⟨⟨p.low.1, p.low.2.1, by omega⟩, l6, ?_, ?_, ?_, Own.nil _ _ _ _ _, ?_⟩, okc⟩ ((k3.trans (u4.keep B MP)).trans (p4.keepSet o))
      · exact p4.names.only o (map_ne p4.names p4.cell)
      · exact m4.only o (map_ne m4 p4.cell)
      · have := p3.names.lt; omega
      · refine p4.files.frame (fun b x hb hx => ?_) fun s hs n x hn hx => ?_
        · rw [o.2 b]
          · exact hx
          · obtain ⟨s, f, F, _⟩ := p4.block_of hb
            exact ne_kind F.cell p4.cell (by intro e; cases e)
        · rw [o.2 n]
          · exact hx
          · obtain ⟨b, f, F, _⟩ := p4.slice_of hs
            rintro rfl
            exact F.row.rowne p4.cell (by decide) hn
theorem read_spec {name : Bytes} {Q : Bytes → Int → PP} (P : PD B d A h) (hQ : Q (A.read name).1 ((A.read name).2 : Int) h) : disk_Disk_Read.C (some ⟨d, 0, none⟩) name Q h := by
  obtain ⟨fb, fs, mn, ml, ch, p, ok⟩ := P
  unfold DiskA.read at hQ
  apply disk_Disk_Read.ok
  unfold disk_Disk_Read.F
  refine file_spec p ok ?_
  cases hoff : A.off with
  | true =>
    rw [hoff, if_pos rfl] at hQ
    rw [if_pos rfl, ifB_of_true (by rfl)]
    exact hQ
  | false =>
    rw [hoff, if_neg (by decide)] at hQ
    rw [if_neg (by decide)]
    cases hf : findD A.now name with
    | none =>
      rw [hf] at hQ
      dsimp only
      rw [ifB_of_true (by rfl)]
      exact hQ
    | some k =>
      rw [hf] at hQ
      dsimp only at hQ ⊢
      rw [ifB_of_false (by rfl), nilP_some]
      obtain ⟨b, s, e1, e2, e3, F⟩ := p.file (ok.now.file _ (findD_some hf))
      rw [e3]
      refine ld_loc (s := .slice) (x := s) F.cell rfl ?_
      exact F.row.seesB.bytes hQ
theorem sortN_dir {n : Nat} {l : Dir} (ok : OkDir n l) : sortN (l.map (·.1)) = l.map (·.1) := by
  unfold sortN
  refine List.mergeSort_of_pairwise ?_
  refine List.pairwise_map.2 (ok.rising.imp fun {a b} hlt => ?_)
  rw [decide_eq_true_eq]
  exact List.le_of_lt hlt
theorem list_spec {Q : Sl → PP} (P : PD B d A h) (hn : A.now.length ≤ 1000000) (hQ : ∀ s h', Own h.size 9 1 (fun l => [encS l]) h' s (A.now.map (·.1)) → Ext h h' → Q s h') : disk_Disk_List.C (some ⟨d, 0, none⟩) Q h := by
  obtain ⟨fb, fs, mn, ml, ch, p, ok⟩ := P
  apply disk_Disk_List.ok
  unfold disk_Disk_List.F
  refine none_spec p ?_
  rw [ifB_of_false rfl, nilP_some]
  refine ld_loc (s := .map) (x := some mn) p.cell rfl ?_
  refine sortedKeys_spec p.names (by unfold dirV; rw [List.length_map]; exact hn) (fun q hq => ?_) fun s h' o u => ?_
  · obtain ⟨r, hr, rfl⟩ := List.mem_map.1 hq
    have := ok.now.right r hr
    unfold rightB at this
    simp only [Bool.and_eq_true, decide_eq_true_eq] at this
    show r.1.length ≤ _
    omega
  · rw [dirV_keys, sortN_dir ok.now] at o
    exact hQ s h' o u
theorem new_spec {room : Int} {Q : Option Addr → PP} (hB : B ≤ h.size) (hQ : ∀ d h', PD B d (newD room) h' → Ext h h' → Q (some ⟨d, 0, none⟩) h') : disk_New.C room Q h := by
  apply disk_New.ok
  unfold disk_New.F
  refine newM_of fun h1 u1 z1 m1 => newM_of fun h2 u2 z2 m2 => newP_loc fun h3 u3 z3 l3 => ?_
  have e : (if (1048576 : Int) < (if (0 : Int) > room then (0 : Int) else room) then (1048576 : Int) else (if (0 : Int) > room then (0 : Int) else room)) = ((min room.toNat 1048576 : Nat) : Int) := by
    split <;> split <;> omega
  rw [e] at l3
  refine hQ h2.size h3 ⟨[], [], h.size, h1.size, ⟨none, 0, 0⟩, ⟨⟨by omega, by omega, by omega⟩, l3, (m1.ext u2).ext u3, m2.ext u3, by omega, Own.nil _ _ _ _ _, ⟨rfl, rfl, List.Pairwise.nil, fun i b s f hb => by simp at hb, fun i j s t hs => by simp at hs⟩⟩, new_ok room⟩ ((u1.trans u2).trans u3)
theorem fuse_spec {n : Int} {Q : PP} (P : PD B d A h) (hn : n < 9223372036854775808) (hQ : ∀ h', PD B d (A.setFuse n) h' → Keep B MP h h' → Q h') : disk_Disk_Fuse.C (some ⟨d, 0, none⟩) n Q h := by
  obtain ⟨fb, fs, mn, ml, ch, p, ok⟩ := P
  apply disk_Disk_Fuse.ok
  unfold disk_Disk_Fuse.F
  refine none_spec p ?_
  rw [ifB_of_true (by rfl), nilP_some]
  refine st_loc (s := .int .i64) p.cell (by simp) (by decide) fun h1 l1 o1 => ?_
  have e : (if (0 : Int) > n then (0 : Int) else n) = ((n.toNat : Nat) : Int) := by split <;> omega
  rw [e] at l1
  exact hQ h1 ⟨fb, fs, mn, ml, ch, p.set o1 l1 rfl rfl rfl, setFuse_ok ok n hn⟩ (p.keepSet o1)
theorem start_spec {Q : PP} (P : PD B d A h) (hQ : ∀ h', PD B d A.start h' → Keep B MP h h' → Q h') : disk_Disk_Start.C (some ⟨d, 0, none⟩) Q h := by
  obtain ⟨fb, fs, mn, ml, ch, p, ok⟩ := P
  apply disk_Disk_Start.ok
  unfold disk_Disk_Start.F
  refine none_spec p ?_
  rw [ifB_of_true (by rfl), nilP_some]
  refine st_loc (s := .bool) p.cell (by simp) (by decide) fun h1 l1 o1 => ?_
  exact hQ h1 ⟨fb, fs, mn, ml, ch, p.set o1 l1 rfl rfl rfl, start_ok ok⟩ (p.keepSet o1)
theorem fused_spec {Q : Int → PP} (P : PD B d A h) (hQ : Q (A.fuse : Int) h) : disk_Disk_Fused.C (some ⟨d, 0, none⟩) Q h := by
  obtain ⟨fb, fs, mn, ml, ch, p, ok⟩ := P
  apply disk_Disk_Fused.ok
  unfold disk_Disk_Fused.F
  refine none_spec p ?_
  rw [ifB_of_false rfl, nilP_some]
  exact ld_loc (s := .int .i64) (x := (A.fuse : Int)) p.cell rfl hQ
theorem down_spec {Q : Bool → PP} (P : PD B d A h) (hQ : Q A.off h) : disk_Disk_Down.C (some ⟨d, 0, none⟩) Q h := by
  obtain ⟨fb, fs, mn, ml, ch, p, ok⟩ := P
  apply disk_Disk_Down.ok
  unfold disk_Disk_Down.F
  refine none_spec p ?_
  rw [ifB_of_false rfl, nilP_some]
  exact ld_loc (s := .bool) (x := A.off) p.cell rfl hQ
theorem room_spec {Q : Int → PP} (P : PD B d A h) (hQ : Q (A.room : Int) h) : disk_Disk_Room.C (some ⟨d, 0, none⟩) Q h := by
  obtain ⟨fb, fs, mn, ml, ch, p, ok⟩ := P
  apply disk_Disk_Room.ok
  unfold disk_Disk_Room.F
  refine none_spec p ?_
  rw [ifB_of_false rfl, nilP_some]
  exact ld_loc (s := .int .i64) (x := (A.room : Int)) p.cell rfl hQ
end
end Go.Proofs.W
end
section
set_option maxRecDepth 100000
set_option linter.unusedVariables false
namespace Go.Proofs.W
open Go Go.Shal Go.Proofs Go.M
abbrev encI (n : Int) : Value := .int .i64 n
abbrev encP (p : Int × Nat) : List Value := [.int .i64 p.1, .int .u32 (p.2 : Int)]
/-- A crash's choices, in slices. -/
structure CrashAt (B : Nat) (h : Heap) (c : CrashV) (ks ss : Sl) : Prop where
  keep : View B 3 1 (fun n => [encI n]) h ks c.keep
  spoil : View B 268 2 encP h ss c.spoil
  int : ∀ n ∈ c.keep, -9223372036854775808 ≤ n ∧ n < 9223372036854775808
  spot : ∀ p ∈ c.spoil, -9223372036854775808 ≤ p.1 ∧ p.1 < 9223372036854775808 ∧ p.2 < 4294967296
theorem CrashAt.ext {B : Nat} {h h' : Heap} {c : CrashV} {ks ss : Sl} (C : CrashAt B h c ks ss) (u : Ext h h') : CrashAt B h' c ks ss := ⟨C.keep.ext u, C.spoil.ext u, C.int, C.spot⟩
theorem CrashAt.keepM {B B' : Nat} {M : Obj → Bool} {h h' : Heap} {c : CrashV} {ks ss : Sl} (C : CrashAt B h c ks ss) (k : Keep B' M h h') (hB : B ≤ B') (h1 : ∀ cs, M (.cells cs 3 (0, 0)) = false) (h2 : ∀ cs, M (.cells cs 268 (0, 0)) = false) : CrashAt B h' c ks ss := ⟨C.keep.keep k hB h1, C.spoil.keep k hB h2, C.int, C.spot⟩
/-- A row of bytes, with what lies behind it. -/
def RowB (b : Nat) (n cap : Nat) (l : Bytes) (h : Heap) : Prop := ∃ vs : List Value, Shal.Loc b 5 vs h ∧ vs.length = cap ∧ l.length = n ∧ n ≤ cap ∧ vs.take n = byteCells l
theorem byteCells_length (l : Bytes) : (byteCells l).length = l.length := by simp [byteCells]
theorem Own.rowB {B : Nat} {h : Heap} {s : Sl} {l : Bytes} (ho : Own B 5 1 encB h s l) (hne : l ≠ []) : ∃ b, s.p = some ⟨b, 0, none⟩ ∧ B ≤ b ∧ RowB b l.length s.cap l h ∧ s.cap ≤ 9223372036854775807 := by
  have hr := ho.row
  cases hp : s.p with
  | none => rw [hp] at hr; exact absurd hr.1 hne
  | some a =>
    obtain ⟨b, o, sp⟩ := a
    rw [hp] at hr
    obtain ⟨e1, e2, e3, cs, e4, e5, e6, e7, e8⟩ := hr
    simp only at e1 e2 e3 e4
    subst e1 e2
    refine ⟨b, rfl, e3, ⟨cs.toList, e4, by simpa using e5, rfl, e6, ?_⟩, e8⟩
    rw [Nat.mul_one] at e7
    rw [e7]
    unfold encB
    rw [flat_single]
    rfl
theorem RowB.own {B b n cap m : Nat} {l : Bytes} {h : Heap} (r : RowB b n cap l h) (hB : B ≤ b) (hm : m ≤ n) (hc : cap ≤ 9223372036854775807) : Own B 5 1 encB h ⟨some ⟨b, 0, none⟩, m, cap⟩ (l.take m) := by
  obtain ⟨vs, h1, h2, h3, h4, h5⟩ := r
  have hl : (l.take m).length = m := by rw [List.length_take]; omega
  refine ⟨hl.symm, rfl, rfl, hB, vs.toArray, h1, by simp [h2], by rw [hl]; show m ≤ cap; omega, ?_, hc⟩
  rw [hl, Nat.mul_one]
  show vs.take m = _
  have : vs.take m = (vs.take n).take m := by rw [List.take_take, Nat.min_eq_left hm]
  rw [this, h5]
  unfold encB
  rw [flat_single]
  unfold byteCells
  rw [List.map_take]
theorem RowB.st {b n cap i : Nat} {l : Bytes} {h : Heap} {c : UInt8} {v : Int} {K : PP} (r : RowB b n cap l h) (hi : i < n) (hv : v = (c.toNat : Int)) (hk : ∀ h', RowB b n cap (l.set i c) h' → Only b h h' → K h') : stP (.int .u8) ((⟨b, 0, none⟩ : Addr).add i) v K h := by
  subst hv
  obtain ⟨vs, h1, h2, h3, h4, h5⟩ := r
  refine st_loc (s := .int .u8) h1 (by omega) (by decide) fun h' l' o => hk h' ⟨_, l', by simp [h2], by simp [h3], h4, ?_⟩ o
  rw [List.take_set, h5]
  unfold byteCells
  rw [List.map_set]
  rfl
theorem RowB.ld {b n cap i : Nat} {l : Bytes} {h : Heap} {c : UInt8} {K : Int → PP} (r : RowB b n cap l h) (hc : l[i]? = some c) (hk : K (c.toNat : Int) h) : hcell h ((⟨b, 0, none⟩ : Addr).add i) = some (.int .u8 (c.toNat : Int)) := by
  obtain ⟨vs, h1, h2, h3, h4, h5⟩ := r
  refine h1.cell ?_
  have hi : i < n := by rw [← h3]; exact (List.getElem?_eq_some_iff.1 hc).1
  have : (vs.take n)[i]? = some (.int .u8 (c.toNat : Int)) := by rw [h5]; simp [byteCells, hc]
  rw [List.getElem?_take, if_pos hi] at this
  exact this
/-- Bytes turned by a mask, the first n of them. -/
def trn (mask at_ n : Nat) (l : Bytes) : Bytes := l.mapIdx fun i c => if at_ ≤ i ∧ i < at_ + n then c ^^^ UInt8.ofNat (mask / 256 ^ (i - at_)) else c
theorem trn_len (mask at_ n : Nat) (l : Bytes) : (trn mask at_ n l).length = l.length := by simp [trn]
theorem trn_zero (mask at_ : Nat) (l : Bytes) : trn mask at_ 0 l = l := by
  apply List.ext_getElem?
  intro i
  unfold trn
  rw [List.getElem?_mapIdx]
  cases l[i]? with
  | none => rfl
  | some c => simp only [Option.map_some]; rw [if_neg (by omega)]
theorem trn_succ (mask at_ n : Nat) (l : Bytes) (c : UInt8) (hc : l[at_ + n]? = some c) : trn mask at_ (n + 1) l = (trn mask at_ n l).set (at_ + n) (c ^^^ UInt8.ofNat (mask / 256 ^ n)) := by
  apply List.ext_getElem?
  intro i
  rw [List.getElem?_set]
  unfold trn
  rw [List.getElem?_mapIdx, List.getElem?_mapIdx]
  have hlt := (List.getElem?_eq_some_iff.1 hc).1
  by_cases hi : at_ + n = i
  · subst hi
    rw [if_pos rfl, if_pos (by simpa using hlt), hc]
    simp only [Option.map_some]
    rw [if_pos (by omega), Nat.add_sub_cancel_left]
  · rw [if_neg hi]
    cases l[i]? with
    | none => rfl
    | some d =>
      simp only [Option.map_some]
      by_cases h1 : at_ ≤ i ∧ i < at_ + n
      · rw [if_pos h1, if_pos (by omega)]
      · rw [if_neg h1, if_neg (by omega)]
theorem trn_get {mask at_ n : Nat} {l : Bytes} {c : UInt8} (hc : l[at_ + n]? = some c) : (trn mask at_ n l)[at_ + n]? = some c := by
  unfold trn
  rw [List.getElem?_mapIdx, hc]
  simp only [Option.map_some]
  rw [if_neg (by omega)]
theorem trn_final {mask at_ m k : Nat} {l : Bytes} (h1 : k + m ≤ l.length) (h2 : at_ < m) : (trn mask (k + at_) (min 4 (m - at_)) l).take (k + m) = l.take k ++ turn mask at_ ((l.drop k).take m) := by
  apply List.ext_getElem?
  intro i
  rw [List.getElem?_take]
  by_cases hi : i < k + m
  · rw [if_pos hi]
    unfold trn turn
    rw [List.getElem?_mapIdx]
    by_cases hk : i < k
    · rw [List.getElem?_append_left (by rw [List.length_take]; omega), List.getElem?_take, if_pos hk]
      cases l[i]? with
      | none => rfl
      | some c => simp only [Option.map_some]; rw [if_neg (by omega)]
    · rw [List.getElem?_append_right (by rw [List.length_take]; omega), List.length_take, show min k l.length = k by omega, List.getElem?_mapIdx, List.getElem?_take, if_pos (by omega), List.getElem?_drop, show k + (i - k) = i by omega]
      cases l[i]? with
      | none => rfl
      | some c =>
        simp only [Option.map_some]
        by_cases h3 : at_ ≤ i - k ∧ i - k < at_ + 4
        · rw [if_pos (by omega), if_pos h3, show i - (k + at_) = i - k - at_ by omega]
        · rw [if_neg (by omega), if_neg h3]
  · rw [if_neg hi, List.getElem?_eq_none]
    rw [List.length_append, List.length_take]
    unfold turn
    rw [List.length_mapIdx, List.length_take, List.length_drop]
    omega
theorem clamp (x : Int) (L : Nat) : (if (L : Int) < (if (0 : Int) > x then (0 : Int) else x) then (L : Int) else (if (0 : Int) > x then (0 : Int) else x)) = ((min x.toNat L : Nat) : Int) := by
  split <;> split <;> omega
theorem fcrash_spec {B b k : Nat} {s : Sl} {f : FileV} {c : CrashV} {ks ss : Sl} {h : Heap} {Q : PP} (F : FileAt B h b s f) (hlt : f.kept < f.data.length) (hsz : f.data.length ≤ 1048576) (C : CrashAt B h c ks ss) (hk : k < 4611686018427387904)
    (hQ : ∀ h' s', FileAt B h' b s' ⟨f.data.take f.kept ++ left (f.data.drop f.kept) c k, f.kept⟩ → s'.p = s.p → h.size ≤ h'.size → (∀ n o, h[n]? = some o → n ≠ b → s.p.map (·.block) ≠ some n → h'[n]? = some o) → Q h') :
    disk_file_crash.C (some ⟨b, 0, none⟩) c.names ks ss (k : Int) Q h := by
  apply disk_file_crash.ok
  unfold disk_file_crash.F
  have hne : f.data ≠ [] := by intro he; rw [he] at hlt; simp at hlt
  obtain ⟨rb, hp, hrB, rowb, hcap⟩ := Own.rowB F.row hne
  have hslen := F.row.len
  have hlencap : f.data.length ≤ s.cap := by obtain ⟨vs, _, _, _, h4, _⟩ := rowb; exact h4
  refine newP_loc fun h1 u1 z1 l1 => ?_
  have F1 : Shal.Loc b 167 [.slice s.p s.len s.cap, .int .i64 (f.kept : Int)] h1 := F.cell.ext u1
  have C1 := C.ext u1
  have hbne : b ≠ h.size := by have := F.cell.lt; omega
  have kl := C.keep.sees.len
  have sl := C.spoil.sees.len
  -- how much stays
  let m : Nat := match c.keep[k]? with
    | none => 0
    | some n => min n.toNat (f.data.length - f.kept)
  have hm : m ≤ f.data.length - f.kept := by
    show (match c.keep[k]? with | none => 0 | some n => min n.toNat (f.data.length - f.kept)) ≤ _
    split
    · exact Nat.zero_le _
    · exact Nat.min_le_right _ _
  refine join_1 (fun x h' => x = (m : Int) ∧ h' = h1) ?_ ?_
  · refine ld_loc (s := .slice) (x := ks) l1 rfl ?_
    refine ifB_of (fun hb => ?_) (fun hb => ?_)
    · have hkl : k < c.keep.length := by have := of_decide_eq_true hb; omega
      have hget := List.getElem?_eq_getElem hkl
      refine draw_ext ?_
      refine ldG_ext (s := .slice) (x := ks) (l1.cell (n := 1) rfl) ?_
      refine Sees.idx1 (enc := encI) C1.keep.sees rfl hget fun a ha => ?_
      refine ldG_ext (s := .int .i64) (x := c.keep[k]) ha ?_
      rw [nilP_some]
      refine ldG_ext (s := .slice) (x := s) (F1.cell (n := 0) rfl) ?_
      rw [nilP_some]
      refine ldG_ext (s := .int .i64) (x := (f.kept : Int)) (F1.cell (n := 1) rfl) ?_
      refine ⟨?_, rfl⟩
      have em : m = min c.keep[k].toNat (f.data.length - f.kept) := by
        show (match c.keep[k]? with | none => 0 | some n => min n.toNat (f.data.length - f.kept)) = _
        rw [hget]
      rw [em, hslen, wi (by omega) (by omega), show (f.data.length : Int) - (f.kept : Int) = ((f.data.length - f.kept : Nat) : Int) by omega]
      exact clamp _ _
    · have hkl : ¬ k < c.keep.length := by have := of_decide_eq_false hb; omega
      have hget : c.keep[k]? = none := List.getElem?_eq_none (by omega)
      refine ⟨?_, rfl⟩
      have em : m = 0 := by
        show (match c.keep[k]? with | none => 0 | some n => min n.toNat (f.data.length - f.kept)) = _
        rw [hget]
      rw [em]
      rfl
  · rintro x h1' ⟨rfl, rfl⟩
    refine draw_ext ?_
    rw [nilP_some]
    refine ldG_ext (s := .slice) (x := s) (F1.cell (n := 0) rfl) ?_
    rw [nilP_some]
    refine ldG_ext (s := .int .i64) (x := (f.kept : Int)) (F1.cell (n := 1) rfl) ?_
    rw [nilP_some]
    refine ldG_ext (s := .int .i64) (x := (f.kept : Int)) (F1.cell (n := 1) rfl) ?_
    rw [hp, wi (x := (f.kept : Int) + (m : Int)) (by omega) (by omega)]
    refine sliceSl_of (lo := f.kept) (hi := f.kept + m) rfl (by omega) rfl (by omega) (by omega) (by omega) ?_
    rw [Nat.mul_one, Nat.add_sub_cancel_left]
    have row1 : RowB rb f.data.length s.cap f.data h1' := by
      obtain ⟨vs, r1, r2, r3, r4, r5⟩ := rowb
      exact ⟨vs, r1.ext u1, r2, r3, r4, r5⟩
    have hrbne : rb ≠ h.size := by obtain ⟨vs, r1, _⟩ := rowb; have := r1.lt; omega
    have hrb : rb ≠ b := by obtain ⟨vs, r1, _⟩ := rowb; exact ne_kind r1 F.cell (by intro e; cases e)
    refine join_u (fun h' => ∃ l' : Bytes, RowB rb f.data.length s.cap l' h' ∧ l'.take (f.kept + m) = f.data.take f.kept ++ left (f.data.drop f.kept) c k ∧ Only rb h1' h') ?_ ?_
    · -- the bytes that are turned
      have plain : left (f.data.drop f.kept) c k = (f.data.drop f.kept).take m → ∃ l' : Bytes, RowB rb f.data.length s.cap l' h1' ∧ l'.take (f.kept + m) = f.data.take f.kept ++ left (f.data.drop f.kept) c k ∧ Only rb h1' h1' := by
        intro he
        refine ⟨f.data, row1, ?_, Only.refl _ _⟩
        rw [he, List.take_add]
      have hleft : left (f.data.drop f.kept) c k = match c.spoil[k]? with
          | none => (f.data.drop f.kept).take m
          | some (a, mask) => if m = 0 then [] else turn mask ((Int.emod a m).toNat) ((f.data.drop f.kept).take m) := by
        unfold left
        cases hkk : c.keep[k]? with
        | none =>
          have em : m = 0 := by
            show (match c.keep[k]? with | none => 0 | some n => min n.toNat (f.data.length - f.kept)) = _
            rw [hkk]
          rw [em]
          dsimp only
          split <;> simp
        | some n =>
          have em : m = min n.toNat (f.data.length - f.kept) := by
            show (match c.keep[k]? with | none => 0 | some n => min n.toNat (f.data.length - f.kept)) = _
            rw [hkk]
          dsimp only
          rw [List.length_drop, ← em]
          cases c.spoil[k]? <;> rfl
      refine join_b (decide (0 < m ∧ k < c.spoil.length)) (fun h' => h' = h1') ?_ ?_
      · refine ifB_of (fun hb => ?_) (fun hb => ?_)
        · have := of_decide_eq_true hb
          refine ld_loc (s := .slice) (x := ss) l1 rfl ⟨?_, rfl⟩
          rw [decide_eq_decide]
          omega
        · have := of_decide_eq_false hb
          exact ⟨by symm; rw [decide_eq_false_iff_not]; omega, rfl⟩
      · rintro h1'' rfl
        refine ifB_of (fun hb => ?_) (fun hb => ?_)
        · obtain ⟨hm0, hks⟩ := of_decide_eq_true hb
          have hget := List.getElem?_eq_getElem hks
          rw [hget] at hleft
          obtain ⟨sp1, sp2, sp3⟩ := C.spot _ (List.getElem_mem hks)
          refine ld_loc (s := .slice) (x := ss) l1 rfl ?_
          refine Sees.idx (enc := encP) (fun _ => rfl) C1.spoil.sees rfl hget fun a ha => ?_
          refine ld_of (s := .int .i64) (x := c.spoil[k].1) (ha 0 _ rfl) ?_
          refine ⟨by omega, by omega, ?_⟩
          generalize hat : (Int.emod c.spoil[k].1 (m : Int)).toNat = at_
          have hem1 : 0 ≤ Int.emod c.spoil[k].1 (m : Int) := Int.emod_nonneg _ (by omega)
          have hem2 : Int.emod c.spoil[k].1 (m : Int) < m := Int.emod_lt_of_pos _ (by omega)
          have hatm : at_ < m := by omega
          have eat : Int.tmod (IntKind.wrap .i64 (Int.tmod c.spoil[k].1 (m : Int) + (m : Int))) (m : Int) = (at_ : Int) := by
            have e1 : Int.tmod c.spoil[k].1 (m : Int) = c.spoil[k].1 - (m : Int) * Int.tdiv c.spoil[k].1 (m : Int) := by have := Int.mul_tdiv_add_tmod c.spoil[k].1 (m : Int); omega
            have r1 := Int.tmod_lt_of_pos c.spoil[k].1 (show (0 : Int) < (m : Int) by omega)
            have r2 := Int.lt_tmod_of_pos c.spoil[k].1 (show (0 : Int) < (m : Int) by omega)
            rw [wi (by omega) (by omega), Int.tmod_eq_emod_of_nonneg (by omega), e1]
            have e2 : c.spoil[k].1 - (m : Int) * Int.tdiv c.spoil[k].1 (m : Int) + (m : Int) = c.spoil[k].1 + (m : Int) * (1 - Int.tdiv c.spoil[k].1 (m : Int)) := by rw [Int.mul_sub, Int.mul_one]; omega
            rw [e2, Int.add_mul_emod_self_left]
            show Int.emod _ _ = _
            omega
          rw [eat, wi (x := (m : Int) - (at_ : Int)) (by omega) (by omega)]
          have ebound : (if (m : Int) - (at_ : Int) < (4 : Int) then (m : Int) - (at_ : Int) else (4 : Int)) = ((min 4 (m - at_) : Nat) : Int) := by split <;> omega
          rw [ebound]
          refine ⟨fun i h' => ∃ n : Nat, n ≤ min 4 (m - at_) ∧ i = (n : Int) ∧ RowB rb f.data.length s.cap (trn c.spoil[k].2 (f.kept + at_) n f.data) h' ∧ Only rb h1'' h', fun i _ => 4 - i.toNat, ⟨0, by omega, rfl, by rw [trn_zero]; exact row1, Only.refl _ _⟩, ?_⟩
          rintro ⟨i, _⟩ h2 ⟨n, hn, hi, row2, o2⟩
          dsimp only at hi row2 o2
          subst hi
          dsimp only [unc]
          refine ifB_of (fun hb => ?_) (fun hb => ?_)
          · have hn1 : n < min 4 (m - at_) := by have := of_decide_eq_true hb; omega
            have hidx : f.kept + at_ + n < f.data.length := by omega
            have hget2 : f.data[f.kept + at_ + n]? = some f.data[f.kept + at_ + n] := List.getElem?_eq_getElem hidx
            rw [wi (x := (at_ : Int) + (n : Int)) (by omega) (by omega), wi (x := 8 * (n : Int)) (by omega) (by omega)]
            have l2 : Shal.Loc h.size 42 [.int .i64 c.names, .slice ks.p ks.len ks.cap, .slice ss.p ss.len ss.cap] h2 := l1.only o2 (Ne.symm hrbne)
            have C2 : CrashAt B h2 c ks ss := by
              obtain ⟨vs, r1, _⟩ := row1
              exact C1.keepM (o2.keep (M := rowsOf [5]) hrB r1 rfl) (Nat.le_refl _) (fun _ => rfl) fun _ => rfl
            have eadd : ((⟨rb, 0, none⟩ : Addr).add f.kept).add ((at_ + n) * 1) = (⟨rb, 0, none⟩ : Addr).add (f.kept + at_ + n) := by rw [add_add]; congr 1; omega
            refine draw_ext ?_
            refine idx_const (k := at_ + n) (by omega) (by omega) ?_
            rw [eadd]
            refine ldG_ext (s := .int .u8) (x := (f.data[f.kept + at_ + n].toNat : Int)) (row2.ld (K := fun _ _ => True) (trn_get hget2) trivial) ?_
            refine ldG_ext (s := .slice) (x := ss) (l2.cell (n := 2) rfl) ?_
            refine Sees.idx (enc := encP) (fun _ => rfl) C2.spoil.sees rfl hget fun a ha => ?_
            refine ldG_ext (s := .int .u32) (x := (c.spoil[k].2 : Int)) (ha 1 _ rfl) ?_
            refine ⟨by omega, ?_⟩
            refine idx_const (k := at_ + n) (by omega) (by omega) ?_
            rw [eadd]
            have epow : Int.fdiv (c.spoil[k].2 : Int) (2 ^ (min (8 * (n : Int)).toNat (IntKind.bits .u32))) = ((c.spoil[k].2 / 256 ^ n : Nat) : Int) := by
              have : min (8 * (n : Int)).toNat (IntKind.bits .u32) = 8 * n := by rw [show IntKind.bits .u32 = 32 from rfl]; omega
              rw [this, ← fdiv_nat]
              congr 1
              rw [show (256 : Nat) = 2 ^ 8 from rfl, ← Nat.pow_mul]
              norm_cast
            have exor : xor2I .u8 (f.data[f.kept + at_ + n].toNat : Int) (IntKind.wrap .u8 ((c.spoil[k].2 / 256 ^ n : Nat) : Int)) = ((f.data[f.kept + at_ + n] ^^^ UInt8.ofNat (c.spoil[k].2 / 256 ^ n)).toNat : Int) := by
              rw [w8n, xor8 (by have := f.data[f.kept + at_ + n].toNat_lt; omega) (by have := (UInt8.ofNat (c.spoil[k].2 / 256 ^ n)).toNat_lt; omega), UInt8.toNat_xor]
            rw [epow]
            refine row2.st (i := f.kept + at_ + n) hidx exor fun h3 row3 o3 => ?_
            rw [wi (by omega) (by omega)]
            refine ⟨⟨n + 1, by omega, rfl, ?_, o2.trans o3⟩, (show 4 - ((n : Int) + 1).toNat < 4 - (n : Int).toNat by omega)⟩
            rw [trn_succ _ _ _ _ _ hget2]
            exact row3
          · have hn1 : n = min 4 (m - at_) := by have := of_decide_eq_false hb; omega
            subst hn1
            refine ⟨_, row2, ?_, o2⟩
            rw [trn_final (by omega) hatm, hleft]
            dsimp only
            rw [if_neg (by omega)]
            congr 2
            exact hat.symm
        · have hno := of_decide_eq_false hb
          refine plain ?_
          rw [hleft]
          cases hsp : c.spoil[k]? with
          | none => rfl
          | some q =>
            have : k < c.spoil.length := (List.getElem?_eq_some_iff.1 hsp).1
            have hm0 : m = 0 := by
              refine Decidable.byContradiction fun hh => hno ⟨by omega, this⟩
            dsimp only
            rw [if_pos hm0, hm0, List.take_zero]
    · rintro h2 ⟨l', row2, htake, o2⟩
      have F2 := F1.only o2 (Ne.symm hrb)
      refine draw_ext ?_
      rw [nilP_some]
      refine ldG_ext (s := .slice) (x := s) (F2.cell (n := 0) rfl) ?_
      rw [nilP_some]
      refine ldG_ext (s := .int .i64) (x := (f.kept : Int)) (F2.cell (n := 1) rfl) ?_
      rw [hp, wi (x := (f.kept : Int) + (m : Int)) (by omega) (by omega)]
      refine sliceSl_of (lo := 0) (hi := f.kept + m) rfl (by omega) rfl (by omega) (by omega) (by omega) ?_
      rw [Nat.zero_mul, add_zero', Nat.sub_zero, Nat.sub_zero, nilP_some]
      refine st_loc (s := .slice) F2 (by simp) (by decide) fun h3 l3 o3 => ?_
      have hlen' : (f.data.take f.kept ++ left (f.data.drop f.kept) c k).length = f.kept + m := by
        rw [← htake, List.length_take]
        obtain ⟨vs, _, _, r3, _⟩ := row2
        omega
      have own3 : Own B 5 1 encB h2 ⟨some ⟨rb, 0, none⟩, f.kept + m, s.cap⟩ (f.data.take f.kept ++ left (f.data.drop f.kept) c k) := by
        rw [← htake]
        exact row2.own hrB (by omega) hcap
      refine hQ h3 ⟨some ⟨rb, 0, none⟩, f.kept + m, s.cap⟩ ⟨F.low, l3, own3.only o3 (by simpa using hrb)⟩ hp.symm ?_ fun n o hn hnb hns => ?_
      · have := u1.size; rw [o3.1, o2.1]; exact this
      · rw [o3.2 n hnb, o2.2 n (by rintro rfl; exact hns (by rw [hp]; rfl))]
        exact u1.at' hn
end Go.Proofs.W
end
section
set_option maxRecDepth 100000
set_option linter.unusedVariables false
namespace Go.Proofs.W
open Go Go.Shal Go.Proofs Go.M
theorem sliceSl_pre {size cap hi : Nat} {p : Option Addr} {r m : Int} {K : Option Addr → Nat → Nat → PP} {h : Heap} (hr : r = (hi : Int)) (hm : m = (cap : Int)) (h1 : hi ≤ cap) (hK : K p hi cap h) : sliceSl size p cap 0 r m K h := by
  subst hr hm
  refine ⟨⟨by omega, by omega, by omega, by omega⟩, ?_⟩
  have : (if (cap : Int) = 0 then p else p.map (·.add ((0 : Int).toNat * size))) = p := by
    split
    · rfl
    · cases p with
      | none => rfl
      | some a => simp
  rw [this]
  simpa using hK
theorem sees_take {α : Type} {k n : Nat} {enc : α → List Value} (hk : ∀ x, (enc x).length = k) {h : Heap} {s : Sl} {xs : List α} (hs : Sees k enc h s xs) (hn : n ≤ xs.length) : Sees k enc h ⟨s.p, n, s.cap⟩ (xs.take n) := by
  refine ⟨by rw [List.length_take]; show n = _; omega, ?_, fun hp => by rw [hs.none_ hp]; simp⟩
  have hc := hs.at_
  have hf : (xs.take n).flatMap enc = (xs.flatMap enc).take (n * k) := by
    have h1 : xs.flatMap enc = (xs.take n).flatMap enc ++ (xs.drop n).flatMap enc := by rw [← List.flatMap_append, List.take_append_drop]
    have h2 : ((xs.take n).flatMap enc).length = n * k := by rw [flatMap_length hk, List.length_take, Nat.min_eq_left hn]
    rw [h1, ← h2, List.take_left]
  show cellsAt h s.p (n * k) _
  rw [hf]
  cases hp : s.p with
  | none =>
    rw [hp] at hc
    have : xs.flatMap enc = [] := hc
    show List.take _ _ = []
    rw [this, List.take_nil]
  | some a =>
    rw [hp] at hc
    have hl : (xs.flatMap enc).length = xs.length * k := flatMap_length hk xs
    refine ⟨by rw [List.length_take, hl]; have := Nat.mul_le_mul_right k hn; omega, fun j v hj => ?_⟩
    rw [List.getElem?_take] at hj
    split at hj
    · exact hc.2 j v hj
    · cases hj
theorem file_keep {B b : Nat} {s : Sl} {f : FileV} {h h' : Heap} (F : FileAt B h b s f) (hz : h.size ≤ h'.size) (fr : ∀ n o, h[n]? = some o → n ≠ b → s.p.map (·.block) ≠ some n → h'[n]? = some o) : Keep B MP h h' := by
  refine ⟨hz, fun n o hn hm => ?_⟩
  by_cases h1 : n = b
  · subst h1
    have hc := F.cell
    rw [Shal.Loc, hn] at hc
    cases hc
    rcases hm with hm | hm
    · have := F.low; omega
    · cases hm
  · by_cases h2 : s.p.map (·.block) = some n
    · have hr := F.row.row
      cases hp : s.p with
      | none => rw [hp] at h2; cases h2
      | some x =>
        rw [hp] at hr h2
        obtain ⟨_, _, h3, cs, h4, _⟩ := hr
        simp at h2
        rw [h2] at h3 h4
        rw [hn] at h4
        cases h4
        rcases hm with hm | hm
        · omega
        · cases hm
    · exact fr n o hn h1 h2
section
variable {B d : Nat} {A : DiskA} {h : Heap}
theorem crash_spec {c : CrashV} {ks ss : Sl} {Q : PP} (P : PD B d A h) (hB : B ≤ h.size) (C : CrashAt B h c ks ss) (hn : (A.dirAt (min c.names.toNat A.chgs.length)).length ≤ 1000000)
    (hQ : ∀ h', PD B d (A.crash c) h' → Keep B MP h h' → Q h') : disk_Disk_Crash.C (some ⟨d, 0, none⟩) c.names ks ss Q h := by
  obtain ⟨fb, fs, mn, ml, ch, p, ok⟩ := P
  have okc := crash_ok ok c
  apply disk_Disk_Crash.ok
  unfold disk_Disk_Crash.F
  refine newP_loc fun h1 u1 z1 l1 => ?_
  have p1 := p.ext u1
  refine none_spec p1 ?_
  rw [ifB_of_false rfl, nilP_some]
  refine st_loc (s := .bool) p1.cell (by simp) (by decide) fun h2 lc2 o2 => ?_
  have p2 : PDr B d { A with off := true } fb fs mn ml ch h2 := p1.set o2 lc2 rfl rfl rfl
  have hdne : h.size ≠ d := by have := p.cell.lt; omega
  have l2 := l1.only o2 hdne
  have k2 : Keep B MP h h2 := (u1.keep B MP).trans (p1.keepSet o2)
  refine draw_ext ?_
  rw [nilP_some]
  refine ldG_ext (s := .slice) (x := ch) (p2.cell.cell (n := 3) rfl) ?_
  refine ldG_ext (s := .int .i64) (x := c.names) (l2.cell (n := 0) rfl) ?_
  rw [nilP_some]
  refine ldG_ext (s := .slice) (x := ch) (p2.cell.cell (n := 3) rfl) ?_
  have hchl := p2.chgs.len
  have hcap : A.chgs.length ≤ ch.cap := by
    have hr := p2.chgs.row
    cases hcp : ch.p with
    | none => rw [hcp] at hr; rw [show A.chgs = [] from hr.1]; simp
    | some a => rw [hcp] at hr; obtain ⟨_, _, _, cs, _, _, h6, _⟩ := hr; exact h6
  have hchl' : ch.len = A.chgs.length := hchl
  rw [hchl', clamp]
  refine sliceSl_pre rfl rfl (by omega) ?_
  generalize hcnt : min c.names.toNat A.chgs.length = cnt
  have hcl : cnt ≤ A.chgs.length := by omega
  have hnc := ok.nchgs
  -- the changes that last
  have mlne : ml ≠ d := map_ne p2.last p2.cell
  refine ⟨fun i h' => ∃ j : Nat, j ≤ cnt ∧ i = (j : Int) ∧ MapIs ml (dirV fb ((A.chgs.take j).foldl applyC A.dir0)) h' ∧ Aside ml h2 h', fun i _ => cnt - i.toNat, ⟨0, by omega, rfl, p2.last, (ext_aside (Ext.refl _) _)⟩, ?_⟩
  rintro ⟨i, _⟩ h3 ⟨j, hj, hi, m3, a3⟩
  dsimp only at hi m3 a3
  subst hi
  have cell3 : Shal.Loc d 134 [.int .i64 (A.room : Int), .map (some mn), .map (some ml), .slice ch.p ch.len ch.cap, .bool true, .int .i64 (A.fuse : Int)] h3 := a3.at' (Ne.symm mlne) p2.cell
  have hlml : h.size ≠ ml := by have := p.last.lt; omega
  have l3 : Shal.Loc h.size 42 [.int .i64 c.names, .slice ks.p ks.len ks.cap, .slice ss.p ss.len ss.cap] h3 := a3.at' hlml l2
  refine ifB_of (fun hb => ?_) (fun hb => ?_)
  · have hj1 : j < cnt := by have := of_decide_eq_true hb; dsimp only at this; omega
    dsimp only
    have own3 : Own B 169 3 (encG fb) h3 ch A.chgs := p2.chgs.keep fun n cs hn' _ hpn => a3.at' (by rintro rfl; exact row_ne_map p2.chgs p2.last hpn) hn'
    have sees3 := sees_take (encG_len fb) (own3.sees (encG_len fb)) hcl
    have hget : (A.chgs.take cnt)[j]? = some A.chgs[j] := by rw [List.getElem?_take, if_pos hj1, List.getElem?_eq_getElem]
    refine Sees.idx (encG_len fb) sees3 rfl hget fun a ha => ?_
    generalize hgc : A.chgs[j] = cg at ha
    have hpt : ∃ q : Option Addr, (if cg.to = [] then Value.pointer none else fptr fb cg.f) = .pointer q ∧ (cg.to ≠ [] → q = some ⟨fb.getD cg.f 0, 0, none⟩) := by
      by_cases ht : cg.to = []
      · exact ⟨none, by rw [if_pos ht], fun h => absurd ht h⟩
      · exact ⟨some ⟨fb.getD cg.f 0, 0, none⟩, by rw [if_neg ht]; rfl, fun _ => rfl⟩
    obtain ⟨q, hq1, hq2⟩ := hpt
    refine lds_at (l := [.str, .str, .ptr]) (cg.fr, cg.to, q, ()) (fun n v hv => ha n v ?_) ?_
    · unfold encG; rw [hq1]; exact hv
    · dsimp only [unc]
      refine newP_loc fun h4 u4 z4 l4 => sts_loc l4 rfl (by simp) fun h5 l5 o5 => ?_
      have u35 : Ext h3 h5 := ((u4.up _).trans (o5.up (Nat.le_refl _))).ext
      refine draw_ext ?_
      refine ldsG_ext (l := [.str, .str, .ptr]) (cg.fr, cg.to, q, ()) (fun n v hv => l5.cell hv) ?_
      dsimp only [unc]
      rw [nilP_some]
      refine ldG_ext (s := .map) (x := some ml) ((cell3.ext u35).cell (n := 2) rfl) ?_
      refine does_spec (c := cg) (m3.ext u35) hq2 fun h6 m6 a6 => ?_
      rw [wi (by omega) (by omega)]
      refine ⟨⟨j + 1, by omega, rfl, ?_, (a3.trans (ext_aside u35 ml)).trans a6⟩, by dsimp only; omega⟩
      rw [List.take_succ_eq_append_getElem (by omega), List.foldl_append, hgc]
      exact m6
  · have hj1 : j = cnt := by have := of_decide_eq_false hb; dsimp only at this; omega
    subst hj1
    have hdir : (A.chgs.take j).foldl applyC A.dir0 = A.dirAt j := rfl
    rw [hdir] at m3
    rw [hcnt] at hn
    have okd := ok.dirAt j
    rw [nilP_some]
    refine ld_loc (s := .map) (x := some ml) cell3 rfl ?_
    refine clone_spec m3 fun h4 u4 z4 m4 => ?_
    rw [nilP_some]
    refine st_loc (s := .map) (cell3.ext u4) (by simp) (by decide) fun h5 l5 o5 => ?_
    rw [nilP_some]
    refine st_loc (s := .slice) l5 (by simp) (by decide) fun h6 l6 o6 => ?_
    have o := o5.trans o6
    obtain ⟨es, cc, hmb, _⟩ := id p2.last
    have files3 : FilesAt B h3 fb fs A.files := p2.files_aside a3 (fun cs he => by rw [hmb] at he; cases he) (fun cs he => by rw [hmb] at he; cases he)
    have k3 : Keep B MP h h3 := k2.trans (a3.keep p.low.2.2 hmb rfl)
    have hz3 := k3.size
    have p6 : PDr B d { A with off := true, dir0 := A.dirAt j, chgs := [] } fb fs h3.size ml ⟨none, 0, 0⟩ h6 := by
      refine ⟨⟨p.low.1, by omega, p.low.2.2⟩, l6, ?_, ?_, ?_, Own.nil _ _ _ _ _, ?_⟩
      · exact m4.only o (map_ne m4 (cell3.ext u4))
      · exact (m3.ext u4).only o mlne
      · have := m3.lt; omega
      · refine (files3.ext u4).frame (fun b x hb hx => ?_) fun s hs n x hn' hx => ?_
        · rw [o.2 b]
          · exact hx
          · obtain ⟨s, f, F, _⟩ := p.block_of hb
            exact ne_kind F.cell p.cell (by intro e; cases e)
        · rw [o.2 n]
          · exact hx
          · obtain ⟨b, f, F, _⟩ := p.slice_of hs
            rintro rfl
            exact F.row.rowne p.cell (by decide) hn'
    have k6 : Keep B MP h h6 := (k3.trans (u4.keep B MP)).trans (o.keep p.low.1 (cell3.ext u4) rfl)
    have ok6 : OkDisk { A with off := true, dir0 := A.dirAt j, chgs := [] } := ⟨okd, fun x hx => by simp at hx, ok.kept, ok.size, ok.room, ok.fuse, ok.nfiles, by show 0 ≤ _; omega⟩
    have l6v : Shal.Loc h.size 42 [.int .i64 c.names, .slice ks.p ks.len ks.cap, .slice ss.p ss.len ss.cap] h6 := (l3.ext u4).only o hdne
    refine list_spec ⟨fb, fs, h3.size, ml, _, p6, ok6⟩ hn fun s7 h7 own7 u7 => ?_
    have p7 := p6.ext u7
    have k7 : Keep B MP h h7 := k6.trans (u7.keep _ _)
    have l7v := l6v.ext u7
    have hAn : ({ A with off := true, dir0 := A.dirAt j, chgs := [] } : DiskA).now = A.dirAt j := rfl
    rw [hAn] at own7
    have hz7 := k7.size
    refine ⟨fun n i h' => ∃ (t kk : Nat) (F : List FileV) (fs' : List Sl), i = (t : Int) ∧ n = (kk : Int) ∧ t ≤ (A.dirAt j).length ∧ kk ≤ t ∧ PDr B d { A with off := true, dir0 := A.dirAt j, chgs := [], files := F } fb fs' h3.size ml ⟨none, 0, 0⟩ h' ∧
        crashF c ((A.dirAt j).drop t) F kk = crashF c (A.dirAt j) A.files 0 ∧ F.length = A.files.length ∧ (∀ f ∈ F, f.kept ≤ f.data.length ∧ f.data.length ≤ 1048576) ∧ Keep B MP h7 h', fun _ i _ => (A.dirAt j).length - i.toNat,
      ⟨0, 0, A.files, fs, rfl, rfl, by omega, by omega, p7, by simp, rfl, fun f hf => ⟨ok.kept f hf, ok.size f hf⟩, Keep.refl _ _ _⟩, ?_⟩
    rintro ⟨n, i, _⟩ h8 ⟨t, kk, F, fs', hi, hn', ht, hkt, p8, hcr, hFl, hFok, k8⟩
    dsimp only at hi hn' p8 k8
    subst hi hn'
    have own8 : Own h6.size 9 1 (fun l => [encS l]) h8 s7 ((A.dirAt j).map (·.1)) := own7.keepM k8 fun _ => rfl
    have hsl := own8.len
    rw [List.length_map] at hsl
    have k08 : Keep B MP h h8 := k7.trans k8
    refine ifB_of (fun hb => ?_) (fun hb => ?_)
    · have ht1 : t < (A.dirAt j).length := by have := of_decide_eq_true hb; dsimp only at this; omega
      generalize hq : (A.dirAt j)[t] = q
      have hqm : q ∈ A.dirAt j := by rw [← hq]; exact List.getElem_mem ht1
      have hqf := okd.file q hqm
      have hget : ((A.dirAt j).map (·.1))[t]? = some q.1 := by rw [List.getElem?_map, List.getElem?_eq_getElem ht1, hq]; rfl
      have hdrop : (A.dirAt j).drop t = q :: (A.dirAt j).drop (t + 1) := by rw [List.drop_eq_getElem_cons ht1, hq]
      rw [hdrop, crashF_cons] at hcr
      have l8v : Shal.Loc h.size 42 [.int .i64 c.names, .slice ks.p ks.len ks.cap, .slice ss.p ss.len ss.cap] h8 := l7v.keep k8 (.inr rfl)
      have C8 : CrashAt B h8 c ks ss := C.keepM k08 (Nat.le_refl _) (fun _ => rfl) fun _ => rfl
      obtain ⟨b, s, e1, e2, e3, FA⟩ := p8.file (k := q.2) (by show q.2 < F.length; omega)
      have FA : FileAt B h8 b s (fileD F q.2) := FA
      have hf8 : (fileD F q.2).kept ≤ (fileD F q.2).data.length ∧ (fileD F q.2).data.length ≤ 1048576 := by
        rw [fileD_eq (by omega)]
        exact hFok _ (List.getElem_mem _)
      have hrow := FA.row.len
      refine join_1 (fun x h' => ∃ (kk' : Nat) (F' : List FileV) (fs2 : List Sl), x = (kk' : Int) ∧ kk' ≤ t + 1 ∧ PDr B d { A with off := true, dir0 := A.dirAt j, chgs := [], files := F' } fb fs2 h3.size ml ⟨none, 0, 0⟩ h' ∧
        crashF c ((A.dirAt j).drop (t + 1)) F' kk' = crashF c (A.dirAt j) A.files 0 ∧ F'.length = A.files.length ∧ (∀ f ∈ F', f.kept ≤ f.data.length ∧ f.data.length ≤ 1048576) ∧ Keep B MP h7 h') ?_ ?_
      · dsimp only
        refine Sees.idx1 (enc := encS) (Own.sees (enc := fun l => [encS l]) (k := 1) (fun _ => rfl) own8) rfl hget fun a ha => ?_
        refine ld_of (s := .str) ha ?_
        rw [nilP_some]
        refine ld_loc (s := .map) (x := some h3.size) p8.cell rfl ?_
        refine look_some (x := some ⟨b, 0, none⟩) p8.names ?_ ?_
        · have : (q.1, fptr fb q.2) ∈ dirV fb (A.dirAt j) := List.mem_map.2 ⟨q, hqm, rfl⟩
          unfold fptr at this
          rw [e3] at this
          exact this
        · refine draw_ext ?_
          rw [nilP_some]
          refine ldG_ext (s := .int .i64) (x := ((fileD F q.2).kept : Int)) (FA.cell.cell (n := 1) rfl) ?_
          rw [nilP_some]
          refine ldG_ext (s := .slice) (x := s) (FA.cell.cell (n := 0) rfl) ?_
          refine ifB_of (fun hb => ?_) (fun hb => ?_)
          · have hlt : (fileD F q.2).kept < (fileD F q.2).data.length := by have := of_decide_eq_true hb; omega
            rw [if_neg (by omega)] at hcr
            refine lds_loc (l := [.int .i64, .slice, .slice]) (c.names, ks, ss, ()) l8v ?_
            dsimp only [unc]
            refine fcrash_spec FA hlt hf8.2 C8 (by omega) fun h9 s' F9 hsp hz9 fr9 => ?_
            rw [nilP_some]
            refine ld_loc (s := .slice) (x := s') F9.cell rfl ?_
            rw [nilP_some]
            refine st_loc (s := .int .i64) F9.cell (by simp) (by decide) fun h10 l10 o10 => ?_
            have hs'b : s'.p.map (·.block) ≠ some b := F9.row.rowne F9.cell (by decide)
            have F10 : FileAt B h10 b s' (leftF (fileD F q.2) c kk) := by
              refine ⟨FA.low, ?_, F9.row.only o10 hs'b⟩
              have hl9 := F9.row.len
              rw [hl9] at l10
              have e : (leftF (fileD F q.2) c kk).kept = ((fileD F q.2).data.take (fileD F q.2).kept ++ left ((fileD F q.2).data.drop (fileD F q.2).kept) c kk).length := rfl
              rw [e, hl9]
              exact l10
            have fr10 : ∀ n o, h8[n]? = some o → n ≠ b → s.p.map (·.block) ≠ some n → h10[n]? = some o := fun n o hn hnb hns => by rw [o10.2 n hnb]; exact fr9 n o hn hnb hns
            have p10 := p8.setFile (f' := leftF (fileD F q.2) c kk) e1 e2 fr10 F10 (fun n hn => .inl (by rw [hsp] at hn; exact hn))
            rw [wi (by omega) (by omega)]
            refine ⟨kk + 1, F.set q.2 (leftF (fileD F q.2) c kk), _, rfl, by omega, p10, hcr, by rw [List.length_set]; exact hFl, fun f hf => ?_, k8.trans (file_keep FA (by rw [o10.1]; exact hz9) fr10)⟩
            rcases List.mem_or_eq_of_mem_set hf with hf | rfl
            · exact hFok f hf
            · exact leftF_ok c kk hf8.2
          · have hge : ¬ (fileD F q.2).kept < (fileD F q.2).data.length := by have := of_decide_eq_false hb; omega
            rw [if_pos (by omega)] at hcr
            exact ⟨kk, F, fs', rfl, by omega, p8, hcr, hFl, hFok, k8⟩
      · rintro x h9 ⟨kk', F', fs2, rfl, hkk', p9, hcr', hFl', hFok', k9⟩
        dsimp only
        rw [wi (by omega) (by omega)]
        exact ⟨⟨t + 1, kk', F', fs2, rfl, rfl, by omega, hkk', p9, hcr', hFl', hFok', k9⟩, by dsimp only [unc]; omega⟩
    · have ht1 : t = (A.dirAt j).length := by have := of_decide_eq_false hb; dsimp only at this; omega
      subst ht1
      rw [List.drop_length] at hcr
      have hF : F = crashF c (A.dirAt j) A.files 0 := hcr
      refine hQ h8 ⟨fb, fs', h3.size, ml, ⟨none, 0, 0⟩, ?_, okc⟩ k08
      have e : A.crash c = { A with off := true, dir0 := A.dirAt j, chgs := [], files := F } := by
        unfold DiskA.crash
        rw [hF]
        simp only [hcnt]
      rw [e]
      exact p8
end
end Go.Proofs.W
end
