/- Layer 5: the document's disk: rows that are turned in place. Layer 5: the document's disk: its operations. Layer 5: the document's disk: changes of the directory. Layer 5: the document's disk: Create, New. -/
import Derived.Test.YtemfgkhholobgaaGreatDoorSI
section
set_option maxRecDepth 100000
set_option linter.unusedVariables false
namespace Go.Proofs.W
open Go Go.Shal Go.Proofs Go.M
section
variable {B w : Nat} {A A' : DiskA} {h h' : Heap} {fsl dsl : Sl} {raw : List Sl}
/-- The disk's own cell is set. -/
theorem RDr.set (p : RDr B w A fsl dsl raw h) (o : Only w h h') (l : Shal.Loc w 139 [.int .i64 (A'.room : Int), .slice fsl.p fsl.len fsl.cap, .slice dsl.p dsl.len dsl.cap, .bool A'.off, .int .i64 (A'.fuse : Int)] h') (h1 : A'.dir0 = A.dir0) (h2 : A'.chgs = A.chgs) (h3 : A'.files = A.files) : RDr B w A' fsl dsl raw h' := by
  refine ⟨p.low, l, by rw [h3]; exact p.files.only o (p.files.rowne p.cell (by decide)), p.dirs.only o (p.dirs.rowne p.cell (by decide)), by rw [h2]; exact p.rlen, fun i s hs => ?_⟩
  have : A'.dirAt i = A.dirAt i := by unfold DiskA.dirAt; rw [h1, h2]
  rw [this]
  exact (p.each i s hs).keep (o.keep (M := rowsOf [139]) p.low p.cell rfl) (Nat.le_refl _) fun _ => rfl
theorem RDr.keepSet (p : RDr B w A fsl dsl raw h) (o : Only w h h') : Keep B MR h h' := o.keep p.low p.cell rfl
/-- A file is turned. -/
theorem RDr.file (p : RDr B w A fsl dsl raw h) {k b : Nat} {f' : FileV} (hb : fsl.p.map (·.block) = some b) (hB : B ≤ b) (own' : Own B 226 2 encR h' fsl (A.files.set k f')) (o : Only b h h') : RDr B w (A.setFile k f') fsl dsl raw h' ∧ Keep B MR h h' := by
  have hr := p.files.row
  have hbo : ∃ cs, h[b]? = some (.cells cs 226 (0, 0)) := by
    cases hp : fsl.p with
    | none => rw [hp] at hb; cases hb
    | some a =>
      rw [hp] at hb hr
      obtain ⟨_, _, _, cs, h4, _⟩ := hr
      simp at hb
      rw [hb] at h4
      exact ⟨cs, h4⟩
  obtain ⟨cs, hcs⟩ := hbo
  have k1 : Keep B MR h h' := o.keep hB hcs rfl
  have k2 : Keep B (rowsOf [226]) h h' := o.keep hB hcs rfl
  exact ⟨⟨p.low, p.cell.keep k2 (.inr rfl), own', p.dirs.keepM k2 fun _ => rfl, p.rlen, fun i s hs => (p.each i s hs).keep k2 (Nat.le_refl _) fun _ => rfl⟩, k1⟩
theorem rused_spec {Q : Int → PP} (p : RDr B w A fsl dsl raw h) (ok : OkDisk A) (hn : A.now.length ≤ 1000000000) (hQ : Q (A.used : Int) h) : ref05_Disk_Used.C (some ⟨w, 0, none⟩) Q h := by
  apply ref05_Disk_Used.ok
  unfold ref05_Disk_Used.F
  refine now_spec p ok.nchgs fun s hv _ => ?_
  have hl := hv.sees.len
  have hub := (used_bound ok).2
  have hsum : ∀ k, k ≤ A.now.length → usedD A.files (A.now.take k) + usedD A.files (A.now.drop k) = A.used := by
    intro k _
    unfold DiskA.used usedD
    rw [← List.sum_append, ← List.map_append, List.take_append_drop]
  refine ⟨fun n i h' => ∃ k : Nat, k ≤ A.now.length ∧ i = (k : Int) ∧ n = (usedD A.files (A.now.take k) : Int) ∧ h' = h, fun _ i _ => A.now.length - i.toNat, ⟨0, by omega, rfl, rfl, rfl⟩, ?_⟩
  rintro ⟨n, i, _⟩ h1 ⟨k, hk, hi, hn', rfl⟩
  dsimp only at hi hn'
  subst hi hn'
  refine ifB_of (fun hc => ?_) (fun hc => ?_)
  · have hk1 : k < A.now.length := by have := of_decide_eq_true hc; dsimp only at this; omega
    have hf := ok.now.file _ (List.getElem_mem hk1)
    dsimp only
    refine draw_ext ?_
    rw [nilP_some]
    refine ldG_ext (s := .slice) (x := fsl) (p.cell.cell (n := 1) rfl) ?_
    refine Sees.idx encN_len hv.sees rfl (List.getElem?_eq_getElem hk1) fun a ha => ?_
    refine ldG_ext (s := .int .i64) (x := (A.now[k].2 : Int)) (ha 1 _ rfl) ?_
    refine Sees.idx encR_len (p.files.sees encR_len) rfl (List.getElem?_eq_getElem hf) fun a ha => ?_
    refine ldG_ext (s := .str) (x := A.files[A.now[k].2].data) (ha 0 _ rfl) ?_
    have e : usedD A.files (A.now.take (k + 1)) = usedD A.files (A.now.take k) + A.files[A.now[k].2].data.length := by
      rw [List.take_succ_eq_append_getElem hk1]
      unfold usedD
      rw [List.map_append, List.sum_append]
      simp [fileD_eq hf]
    have hs1 := hsum (k + 1) (by omega)
    rw [wi (by omega) (by omega), wi (by omega) (by omega)]
    refine ⟨⟨k + 1, by omega, rfl, (show ((usedD A.files (A.now.take k) : Nat) : Int) + (A.files[A.now[k].2].data.length : Int) = ((usedD A.files (A.now.take (k + 1)) : Nat) : Int) by rw [e]; omega), rfl⟩, by dsimp only [unc]; omega⟩
  · have hk1 : k = A.now.length := by have := of_decide_eq_false hc; dsimp only at this; omega
    subst hk1
    rw [List.take_length]
    exact hQ
theorem rread_spec {name : Bytes} {Q : Bytes → Int → PP} (P : RD B w A h) (hn : A.now.length ≤ 1000000000) (hQ : Q (A.read name).1 ((A.read name).2 : Int) h) : ref05_Disk_Read.C (some ⟨w, 0, none⟩) name Q h := by
  obtain ⟨fsl, dsl, raw, p, ok⟩ := P
  unfold DiskA.read at hQ
  apply ref05_Disk_Read.ok
  unfold ref05_Disk_Read.F
  rw [nilP_some]
  refine ld_loc (s := .bool) (x := A.off) p.cell rfl ?_
  refine ifB_of (fun hb => ?_) (fun hb => ?_)
  · rw [hb, if_pos rfl] at hQ
    exact hQ
  · rw [hb, if_neg (by decide)] at hQ
    refine find_spec p ok hn ?_
    cases hf : findD A.now name with
    | none =>
      rw [hf] at hQ
      dsimp only
      rw [ifB_of_true (by rfl)]
      exact hQ
    | some k =>
      rw [hf] at hQ
      dsimp only at hQ ⊢
      have hk := ok.now.file _ (findD_some hf)
      rw [ifB_of_false (by simp), nilP_some]
      refine ld_loc (s := .slice) (x := fsl) p.cell rfl ?_
      refine Sees.idx encR_len (p.files.sees encR_len) rfl (List.getElem?_eq_getElem hk) fun a ha => ?_
      refine ld_of (s := .str) (x := A.files[k].data) (ha 0 _ rfl) ?_
      rw [fileD_eq hk] at hQ
      exact hQ
theorem rsetFuse_spec {n : Int} {Q : PP} (P : RD B w A h) (hn : n < 9223372036854775808) (hQ : ∀ h', RD B w (A.setFuse n) h' → Keep B MR h h' → Q h') : ref05_Disk_SetFuse.C (some ⟨w, 0, none⟩) n Q h := by
  obtain ⟨fsl, dsl, raw, p, ok⟩ := P
  apply ref05_Disk_SetFuse.ok
  unfold ref05_Disk_SetFuse.F
  rw [nilP_some]
  refine st_loc (s := .int .i64) p.cell (by simp) (by decide) fun h1 l1 o1 => ?_
  refine ifB_of (fun hb => ?_) (fun hb => ?_)
  · have hlt := of_decide_eq_true hb
    rw [nilP_some]
    refine st_loc (s := .int .i64) l1 (by simp) (by decide) fun h2 l2 o2 => ?_
    have o := o1.trans o2
    refine hQ h2 ⟨fsl, dsl, raw, p.set o ?_ rfl rfl rfl, setFuse_ok ok n hn⟩ (p.keepSet o)
    have e : ((A.setFuse n).fuse : Int) = 0 := by show ((n.toNat : Nat) : Int) = 0; omega
    rw [e]
    exact l2
  · have hge := of_decide_eq_false hb
    refine hQ h1 ⟨fsl, dsl, raw, p.set o1 ?_ rfl rfl rfl, setFuse_ok ok n hn⟩ (p.keepSet o1)
    have e : ((A.setFuse n).fuse : Int) = n := by show ((n.toNat : Nat) : Int) = n; omega
    rw [e]
    exact l1
end
end Go.Proofs.W
end
section
set_option maxRecDepth 100000
set_option linter.unusedVariables false
namespace Go.Proofs.W
open Go Go.Shal Go.Proofs Go.M
section
variable {B w : Nat} {A : DiskA} {h : Heap}
theorem rappend_spec {name data : Bytes} {Q : Int → PP} (P : RD B w A h) (hn : A.now.length ≤ 1000000000) (hd : data.length ≤ 1000000000)
    (hQ : ∀ h', RD B w (A.append name data).2 h' → Keep B MR h h' → Q ((A.append name data).1 : Int) h') : ref05_Disk_Append.C (some ⟨w, 0, none⟩) name data Q h := by
  obtain ⟨fsl, dsl, raw, p, ok⟩ := P
  have okc := append_ok ok name data
  unfold DiskA.append at hQ okc
  apply ref05_Disk_Append.ok
  unfold ref05_Disk_Append.F
  rw [nilP_some]
  refine ld_loc (s := .bool) (x := A.off) p.cell rfl ?_
  cases hoff : A.off with
  | true =>
    rw [hoff, if_pos rfl] at hQ
    rw [ifB_true]
    exact hQ h ⟨fsl, dsl, raw, p, ok⟩ (Keep.refl _ _ _)
  | false =>
    rw [hoff, if_neg (by decide)] at hQ okc
    rw [ifB_false]
    refine find_spec p ok hn ?_
    cases hf : findD A.now name with
    | none =>
      rw [hf] at hQ
      dsimp only
      rw [ifB_of_true (by rfl)]
      exact hQ h ⟨fsl, dsl, raw, p, ok⟩ (Keep.refl _ _ _)
    | some k =>
      rw [hf] at hQ okc
      dsimp only at hQ okc ⊢
      rw [ifB_of_false (by simp)]
      refine draw_ext ?_
      rw [nilP_some]
      refine ldG_ext (s := .int .i64) (x := (A.room : Int)) (p.cell.cell (n := 0) rfl) ?_
      refine rused_spec p ok hn (with_ext (Ext.refl _) ?_)
      have hub := used_bound ok
      have hroom := ok.room
      rw [wi (by omega) (by omega)]
      by_cases hfull : A.room < A.used + data.length
      · rw [if_pos hfull] at hQ
        rw [ifB_of_true (by simp; omega)]
        exact hQ h ⟨fsl, dsl, raw, p, ok⟩ (Keep.refl _ _ _)
      · rw [if_neg hfull] at hQ okc
        rw [ifB_of_false (by simp; omega)]
        refine goes_spec p ok.fuse hoff fun h3 p3 o3 => ?_
        have k3 : Keep B MR h h3 := p.keepSet o3
        unfold DiskA.op at hQ okc
        cases hbo : A.burn.off with
        | true =>
          rw [hbo, if_pos rfl] at hQ
          rw [ifB_of_true (by rfl)]
          exact hQ h3 ⟨fsl, dsl, raw, p3, ok.burn⟩ k3
        | false =>
          rw [hbo, if_neg (by decide)] at hQ okc
          rw [ifB_of_false (by rfl)]
          obtain ⟨b1, b2, b3, b4⟩ := burn_room A
          have hk : k < A.burn.files.length := by rw [b2]; exact ok.now.file _ (findD_some hf)
          have hdl := (ok.burn.fileD hk).2
          have hget := List.getElem?_eq_getElem hk
          have hfd := fileD_eq hk
          refine draw_ext ?_
          rw [nilP_some]
          refine ldG_ext (s := .slice) (x := fsl) (p3.cell.cell (n := 1) rfl) ?_
          rw [nilP_some]
          refine ldG_ext (s := .slice) (x := fsl) (p3.cell.cell (n := 1) rfl) ?_
          refine Sees.idx encR_len (p3.files.sees encR_len) rfl hget fun a ha => ?_
          refine ldG_ext (s := .str) (x := A.burn.files[k].data) (ha 0 _ rfl) ⟨by rw [hfd] at hdl; omega, ?_⟩
          refine own_idx_st (sc := .str) (j := 0) (x' := ⟨A.burn.files[k].data ++ data, A.burn.files[k].kept⟩) encR_len p3.files rfl hget (by decide) (by decide) rfl fun b h4 hb hB own4 o4 => ?_
          obtain ⟨p4, k4⟩ := p3.file hb hB own4 o4
          rw [← hfd] at p4
          exact hQ h4 ⟨fsl, dsl, raw, p4, okc⟩ (k3.trans k4)
theorem rsync_spec {name : Bytes} {Q : Int → PP} (P : RD B w A h) (hn : A.now.length ≤ 1000000000)
    (hQ : ∀ h', RD B w (A.sync name).2 h' → Keep B MR h h' → Q ((A.sync name).1 : Int) h') : ref05_Disk_Sync.C (some ⟨w, 0, none⟩) name Q h := by
  obtain ⟨fsl, dsl, raw, p, ok⟩ := P
  have okc := sync_ok ok name
  unfold DiskA.sync at hQ okc
  apply ref05_Disk_Sync.ok
  unfold ref05_Disk_Sync.F
  rw [nilP_some]
  refine ld_loc (s := .bool) (x := A.off) p.cell rfl ?_
  cases hoff : A.off with
  | true =>
    rw [hoff, if_pos rfl] at hQ
    rw [ifB_true]
    exact hQ h ⟨fsl, dsl, raw, p, ok⟩ (Keep.refl _ _ _)
  | false =>
    rw [hoff, if_neg (by decide)] at hQ okc
    rw [ifB_false]
    refine find_spec p ok hn ?_
    cases hf : findD A.now name with
    | none =>
      rw [hf] at hQ
      dsimp only
      rw [ifB_of_true (by rfl)]
      exact hQ h ⟨fsl, dsl, raw, p, ok⟩ (Keep.refl _ _ _)
    | some k =>
      rw [hf] at hQ okc
      dsimp only at hQ okc ⊢
      rw [ifB_of_false (by simp)]
      refine goes_spec p ok.fuse hoff fun h3 p3 o3 => ?_
      have k3 : Keep B MR h h3 := p.keepSet o3
      unfold DiskA.op at hQ okc
      cases hbo : A.burn.off with
      | true =>
        rw [hbo, if_pos rfl] at hQ
        rw [ifB_of_true (by rfl)]
        exact hQ h3 ⟨fsl, dsl, raw, p3, ok.burn⟩ k3
      | false =>
        rw [hbo, if_neg (by decide)] at hQ okc
        rw [ifB_of_false (by rfl)]
        obtain ⟨b1, b2, b3, b4⟩ := burn_room A
        have hk : k < A.burn.files.length := by rw [b2]; exact ok.now.file _ (findD_some hf)
        have hget := List.getElem?_eq_getElem hk
        have hfd := fileD_eq hk
        refine draw_ext ?_
        rw [nilP_some]
        refine ldG_ext (s := .slice) (x := fsl) (p3.cell.cell (n := 1) rfl) ?_
        rw [nilP_some]
        refine ldG_ext (s := .slice) (x := fsl) (p3.cell.cell (n := 1) rfl) ?_
        refine Sees.idx encR_len (p3.files.sees encR_len) rfl hget fun a ha => ?_
        refine ldG_ext (s := .str) (x := A.burn.files[k].data) (ha 0 _ rfl) ?_
        refine own_idx_st (sc := .int .i64) (j := 1) (x' := ⟨A.burn.files[k].data, A.burn.files[k].data.length⟩) encR_len p3.files rfl hget (by decide) (by decide) rfl fun b h4 hb hB own4 o4 => ?_
        obtain ⟨p4, k4⟩ := p3.file hb hB own4 o4
        rw [← hfd] at p4
        exact hQ h4 ⟨fsl, dsl, raw, p4, okc⟩ (k3.trans k4)
variable {fsl dsl : Sl} {raw : List Sl}
/-- A directory more. -/
theorem RDr.addDir {h h1 h2 : Heap} {c : Chg} {s dsl' : Sl} (p : RDr B w A fsl dsl raw h) (b : But dsl h h1) (own' : Own B 152 1 (fun s => [encSl s]) h1 dsl' (raw ++ [s])) (hs : View B 155 2 encN h s (applyC A.now c)) (hne : dsl'.p.map (·.block) ≠ some w)
    (o : Only w h1 h2) (l : Shal.Loc w 139 [.int .i64 (A.room : Int), .slice fsl.p fsl.len fsl.cap, .slice dsl'.p dsl'.len dsl'.cap, .bool A.off, .int .i64 (A.fuse : Int)] h2) : RDr B w (A.chg c) fsl dsl' (raw ++ [s]) h2 ∧ Keep B MR h h2 := by
  have hdw : dsl.p.map (·.block) ≠ some w := p.dirs.rowne p.cell (by decide)
  have cell1 := p.cell.but b hdw
  have k1 : Keep B MR h h1 := But.keepO p.dirs b fun _ => rfl
  have k2 : Keep B MR h1 h2 := o.keep p.low cell1 rfl
  have k : Keep B MR h h2 := k1.trans k2
  refine ⟨⟨p.low, l, ?_, own'.only o hne, ?_, fun i s' hs' => ?_⟩, k⟩
  · have f1 : Own B 226 2 encR h1 fsl A.files := Own.but (β := Unit) p.files b fun n h1 h2 => row_ne_row p.files p.dirs (by decide) n h1 h2
    exact f1.only o (p.files.rowne p.cell (by decide))
  · rw [List.length_append, List.length_singleton, p.rlen]
    show _ = (A.chgs ++ [c]).length + 1
    rw [List.length_append, List.length_singleton]
  · have hr := p.rlen
    by_cases hi : i < raw.length
    · rw [List.getElem?_append_left hi] at hs'
      have : (A.chg c).dirAt i = A.dirAt i := by
        unfold DiskA.dirAt DiskA.chg
        rw [List.take_append_of_le_length (by omega)]
      rw [this]
      exact (p.each i s' hs').keep k (Nat.le_refl _) fun _ => rfl
    · rw [List.getElem?_append_right (by omega)] at hs'
      have hi2 : i = A.chgs.length + 1 := by
        have := (List.getElem?_eq_some_iff.1 hs').1
        simp at this
        omega
      subst hi2
      rw [hr, Nat.sub_self] at hs'
      simp at hs'
      subst hs'
      have : (A.chg c).dirAt (A.chgs.length + 1) = applyC A.now c := by
        unfold DiskA.dirAt DiskA.chg DiskA.now
        rw [List.take_of_length_le (by simp), List.foldl_append]
        rfl
      rw [this]
      exact hs.keep k (Nat.le_refl _) fun _ => rfl
theorem new_ne {h h1 : Heap} {s s' : Sl} {w : Nat} (g : ∀ a, s'.p = some a → s.p.map (·.block) = some a.block ∨ h.size ≤ a.block) (h1 : s.p.map (·.block) ≠ some w) (h2 : w < h.size) : s'.p.map (·.block) ≠ some w := by
  intro he
  cases hp : s'.p with
  | none => rw [hp] at he; cases he
  | some x =>
    rw [hp] at he
    simp at he
    rcases g x hp with hh | hh
    · rw [he] at hh; exact h1 hh
    · omega
end
end Go.Proofs.W
end
section
set_option maxRecDepth 100000
set_option linter.unusedVariables false
namespace Go.Proofs.W
open Go Go.Shal Go.Proofs Go.M
section
variable {B w : Nat} {A : DiskA} {h : Heap}
theorem rdelete_spec {name : Bytes} {Q : Int → PP} (P : RD B w A h) (hB : B ≤ h.size) (hn : A.now.length ≤ 1000000000) (h2 : A.chgs.length < 1000000000)
    (hQ : ∀ h', RD B w (A.delete name).2 h' → Keep B MR h h' → Q ((A.delete name).1 : Int) h') : ref05_Disk_Delete.C (some ⟨w, 0, none⟩) name Q h := by
  obtain ⟨fsl, dsl, raw, p, ok⟩ := P
  have okc := delete_ok ok name h2
  unfold DiskA.delete at hQ okc
  apply ref05_Disk_Delete.ok
  unfold ref05_Disk_Delete.F
  rw [nilP_some]
  refine ld_loc (s := .bool) (x := A.off) p.cell rfl ?_
  cases hoff : A.off with
  | true =>
    rw [hoff, if_pos rfl] at hQ
    rw [ifB_true]
    exact hQ h ⟨fsl, dsl, raw, p, ok⟩ (Keep.refl _ _ _)
  | false =>
    rw [hoff, if_neg (by decide)] at hQ okc
    rw [ifB_false]
    refine find_spec p ok hn ?_
    cases hf : findD A.now name with
    | none =>
      rw [hf] at hQ
      dsimp only
      rw [ifB_of_true (by rfl)]
      exact hQ h ⟨fsl, dsl, raw, p, ok⟩ (Keep.refl _ _ _)
    | some k =>
      rw [hf] at hQ okc
      dsimp only at hQ okc ⊢
      have hnm : name ≠ [] := by
        have hri := ok.now.right _ (findD_some hf)
        rintro rfl
        cases hri
      rw [ifB_of_false (by simp)]
      refine goes_spec p ok.fuse hoff fun h3 p3 o3 => ?_
      have k3 : Keep B MR h h3 := p.keepSet o3
      unfold DiskA.op at hQ okc
      cases hbo : A.burn.off with
      | true =>
        rw [hbo, if_pos rfl] at hQ
        rw [ifB_of_true (by rfl)]
        exact hQ h3 ⟨fsl, dsl, raw, p3, ok.burn⟩ k3
      | false =>
        rw [hbo, if_neg (by decide)] at hQ okc
        rw [ifB_of_false (by rfl)]
        have hbn := (burn_room A).2.2.2
        refine draw_ext ?_
        rw [nilP_some]
        refine ldG_ext (s := .slice) (x := dsl) (p3.cell.cell (n := 2) rfl) ?_
        refine now_spec p3 ok.burn.nchgs fun s hv _ => with_ext (Ext.refl _) ?_
        refine without_spec hv.sees (by rw [burn_now]; exact hn) fun s' h4 o4 u4 => with_ext u4 ?_
        have p4 := p3.ext u4
        have hz3 := k3.size
        have hz4 := u4.size
        refine newP_sees (k := 1) (enc := fun s => [encSl s]) (xs := [s']) (fun _ => rfl) rfl rfl fun h5 u5 z5 s5 => with_ext (u4.trans u5) ?_
        have p5 := p4.ext u5
        have hr := p5.rlen
        refine app_sl (t := ⟨some ⟨h4.size, 0, none⟩, 1, 1⟩) (enc := fun s => [encSl s]) (fun _ => rfl) (fun x v hv => by simp at hv; subst hv; rfl) rfl p5.dirs s5 (by omega) (by rw [hr, hbn]; simp; omega) fun dsl' h6 own6 b6 g6 => ?_
        have hdw : dsl.p.map (·.block) ≠ some w := p5.dirs.rowne p5.cell (by decide)
        have cell6 := p5.cell.but b6 hdw
        rw [nilP_some]
        refine st_loc (s := .slice) cell6 (by simp) (by decide) fun h7 l7 o7 => ?_
        have happ : applyC A.burn.now ⟨name, [], 0⟩ = without A.burn.now name := by unfold applyC; rw [if_pos rfl, if_neg hnm]
        obtain ⟨p7, k7⟩ := p5.addDir (c := ⟨name, [], 0⟩) b6 own6 (by rw [happ]; exact (o4.view encN_len).ext u5) (new_ne (h1 := h6) g6 hdw p5.cell.lt) o7 l7
        exact hQ h7 ⟨fsl, dsl', _, p7, okc⟩ ((k3.trans ((u4.trans u5).keep _ _)).trans k7)
theorem rdirSync_spec {Q : Int → PP} (P : RD B w A h) (hB : B ≤ h.size)
    (hQ : ∀ h', RD B w A.dirSync.2 h' → Keep B MR h h' → Q (A.dirSync.1 : Int) h') : ref05_Disk_DirSync.C (some ⟨w, 0, none⟩) Q h := by
  obtain ⟨fsl, dsl, raw, p, ok⟩ := P
  have okc := dirSync_ok ok
  unfold DiskA.dirSync at hQ okc
  apply ref05_Disk_DirSync.ok
  unfold ref05_Disk_DirSync.F
  cases hoff : A.off with
  | true =>
    rw [hoff, if_pos rfl] at hQ
    refine joinT_dup ?_
    rw [nilP_some]
    refine ld_loc (s := .bool) (x := A.off) p.cell rfl ?_
    rw [hoff, ifB_true]
    dsimp only
    rw [ifB_true]
    exact hQ h ⟨fsl, dsl, raw, p, ok⟩ (Keep.refl _ _ _)
  | false =>
    rw [hoff, if_neg (by decide)] at hQ okc
    refine joinT_dup ?_
    rw [nilP_some]
    refine ld_loc (s := .bool) (x := A.off) p.cell rfl ?_
    rw [hoff, ifB_false]
    refine goes_spec p ok.fuse hoff fun h3 p3 o3 => ?_
    have k3 : Keep B MR h h3 := p.keepSet o3
    unfold DiskA.op at hQ okc
    cases hbo : A.burn.off with
    | true =>
      rw [hbo, if_pos rfl] at hQ
      dsimp only
      rw [ifB_of_true (by rfl)]
      exact hQ h3 ⟨fsl, dsl, raw, p3, ok.burn⟩ k3
    | false =>
      rw [hbo, if_neg (by decide)] at hQ okc
      dsimp only
      rw [ifB_of_false (by rfl)]
      refine now_spec p3 ok.burn.nchgs fun s hv _ => ?_
      have hz3 := k3.size
      refine newP_loc fun h4 u4 z4 l4 => ?_
      have p4 := p3.ext u4
      rw [nilP_some]
      refine st_loc (s := .slice) p4.cell (by simp) (by decide) fun h5 l5 o5 => ?_
      have k5 : Keep B MR h4 h5 := p4.keepSet o5
      have kk : Keep B (rowsOf [139]) h4 h5 := o5.keep p4.low p4.cell rfl
      have hne : h3.size ≠ w := by have := p3.cell.lt; omega
      have l5' := l4.only o5 hne
      refine hQ h5 ⟨fsl, ⟨some ⟨h3.size, 0, none⟩, 1, 1⟩, [s], ⟨p.low, l5, p4.files.keepM kk fun _ => rfl, ?_, rfl, fun i s' hs' => ?_⟩, okc⟩ ((k3.trans (u4.keep _ _)).trans k5)
      · refine ⟨rfl, rfl, rfl, by show B ≤ h3.size; omega, _, l5', rfl, by simp, rfl, by show (1 : Nat) ≤ _; omega⟩
      · have hi : i = 0 := by
          have := (List.getElem?_eq_some_iff.1 hs').1
          simp at this
          exact this
        subst hi
        simp at hs'
        subst hs'
        exact (hv.ext u4).keep kk (Nat.le_refl _) fun _ => rfl
end
end Go.Proofs.W
end
section
set_option maxRecDepth 100000
set_option linter.unusedVariables false
namespace Go.Proofs.W
open Go Go.Shal Go.Proofs Go.M
section
variable {B w : Nat} {A : DiskA} {h : Heap}
theorem rnew_spec {room : Int} {Q : Option Addr → PP} (hB : B ≤ h.size) (hQ : ∀ w h', RD B w (newD room) h' → Ext h h' → Q (some ⟨w, 0, none⟩) h') : ref05_New.C room Q h := by
  apply ref05_New.ok
  unfold ref05_New.F
  refine held_spec ?_
  have e : (if room < 0 then (0 : Int) else if room > (1048576 : Int) then (1048576 : Int) else room) = ((min room.toNat 1048576 : Nat) : Int) := held_nat (m := 1048576)
  rw [e]
  refine newP_loc fun h1 u1 z1 l1 => newP_loc fun h2 u2 z2 l2 => ?_
  refine hQ h1.size h2 ⟨⟨none, 0, 0⟩, ⟨some ⟨h.size, 0, none⟩, 1, 1⟩, [⟨none, 0, 0⟩], ⟨by omega, l2, Own.nil _ _ _ _ _, ?_, rfl, fun i s hs => ?_⟩, new_ok room⟩ (u1.trans u2)
  · exact ⟨rfl, rfl, rfl, hB, _, l1.ext u2, rfl, by simp, rfl, by show (1 : Nat) ≤ _; omega⟩
  · have hi : i = 0 := by
      have := (List.getElem?_eq_some_iff.1 hs).1
      simp at this
      exact this
    subst hi
    simp at hs
    subst hs
    exact ⟨Sees.nil _ _ _ _, fun _ a ha => by cases ha⟩
variable {fsl dsl : Sl} {raw : List Sl}
/-- A file more. -/
theorem RDr.more {h h1 h2 : Heap} {fsl' : Sl} (p : RDr B w A fsl dsl raw h) (b : But fsl h h1) (own' : Own B 226 2 encR h1 fsl' (A.files ++ [⟨[], 0⟩])) (hne : fsl'.p.map (·.block) ≠ some w)
    (o : Only w h1 h2) (l : Shal.Loc w 139 [.int .i64 (A.room : Int), .slice fsl'.p fsl'.len fsl'.cap, .slice dsl.p dsl.len dsl.cap, .bool A.off, .int .i64 (A.fuse : Int)] h2) : RDr B w A.more fsl' dsl raw h2 ∧ Keep B MR h h2 := by
  have hfw : fsl.p.map (·.block) ≠ some w := p.files.rowne p.cell (by decide)
  have cell1 := p.cell.but b hfw
  have k1 : Keep B MR h h1 := But.keepO p.files b fun _ => rfl
  have k2 : Keep B MR h1 h2 := o.keep p.low cell1 rfl
  have k := k1.trans k2
  refine ⟨⟨p.low, l, own'.only o hne, ?_, p.rlen, fun i s hs => (p.each i s hs).keep k (Nat.le_refl _) fun _ => rfl⟩, k⟩
  have d1 : Own B 152 1 (fun s => [encSl s]) h1 dsl raw := Own.but (β := Unit) p.dirs b fun n h1 h2 => row_ne_row p.dirs p.files (by decide) n h1 h2
  exact d1.only o (p.dirs.rowne p.cell (by decide))
theorem rcreate_spec {name : Bytes} {Q : Int → PP} (P : RD B w A h) (hB : B ≤ h.size) (hn : A.now.length ≤ 1000000000) (hnl : name.length ≤ 1000000000) (h1 : A.files.length < 1000000000) (h2 : A.chgs.length < 1000000000)
    (hQ : ∀ h', RD B w (A.create name).2 h' → Keep B MR h h' → Q ((A.create name).1 : Int) h') : ref05_Disk_Create.C (some ⟨w, 0, none⟩) name Q h := by
  obtain ⟨fsl, dsl, raw, p, ok⟩ := P
  have okc := create_ok ok name h1 h2
  rw [create_eq] at hQ okc
  apply ref05_Disk_Create.ok
  unfold ref05_Disk_Create.F
  rw [nilP_some]
  refine ld_loc (s := .bool) (x := A.off) p.cell rfl ?_
  cases hoff : A.off with
  | true =>
    rw [hoff, if_pos rfl] at hQ
    rw [ifB_true]
    exact hQ h ⟨fsl, dsl, raw, p, ok⟩ (Keep.refl _ _ _)
  | false =>
    rw [hoff, if_neg (by decide)] at hQ okc
    rw [ifB_false]
    refine rright_spec (by omega) ?_
    cases hr : rightB name with
    | false =>
      have hno : findD A.now name = none := by
        cases hf : findD A.now name with
        | none => rfl
        | some k => have := ok.now.right _ (findD_some hf); rw [hr] at this; cases this
      rw [hno, if_neg (by simp), hr, if_neg (by decide)] at hQ
      rw [ifB_of_true (by rfl)]
      exact hQ h ⟨fsl, dsl, raw, p, ok⟩ (Keep.refl _ _ _)
    | true =>
      rw [ifB_of_false (by rfl)]
      refine find_spec p ok hn ?_
      cases hf : findD A.now name with
      | some k =>
        rw [hf, Option.isSome_some, if_pos rfl] at hQ
        dsimp only
        rw [ifB_of_true (by simp)]
        exact hQ h ⟨fsl, dsl, raw, p, ok⟩ (Keep.refl _ _ _)
      | none =>
        rw [hf, if_neg (by simp), hr, if_pos rfl] at hQ okc
        dsimp only
        rw [ifB_of_false (by rfl)]
        refine goes_spec p ok.fuse hoff fun h3 p3 o3 => ?_
        have k3 : Keep B MR h h3 := p.keepSet o3
        unfold DiskA.op at hQ okc
        cases hbo : A.burn.off with
        | true =>
          rw [hbo, if_pos rfl] at hQ
          rw [ifB_of_true (by rfl)]
          exact hQ h3 ⟨fsl, dsl, raw, p3, ok.burn⟩ k3
        | false =>
          rw [hbo, if_neg (by decide)] at hQ okc
          rw [ifB_of_false (by rfl), nilP_some]
          obtain ⟨b1, b2, b3, b4⟩ := burn_room A
          have hz3 := k3.size
          refine ld_loc (s := .slice) (x := fsl) p3.cell rfl ?_
          refine app_one (enc := encR) (x := ⟨[], 0⟩) encR_len encR_one rfl rfl p3.files (by omega) (by rw [b2]; omega) fun fsl' h4 own4 bt4 g4 => ?_
          have hfw : fsl.p.map (·.block) ≠ some w := p3.files.rowne p3.cell (by decide)
          have cell4 := p3.cell.but bt4 hfw
          rw [nilP_some]
          refine st_loc (s := .slice) cell4 (by simp) (by decide) fun h5 l5 o5 => ?_
          obtain ⟨p5, k5⟩ := p3.more bt4 own4 (new_ne (h1 := h4) g4 hfw p3.cell.lt) o5 l5
          have k35 : Keep B MR h h5 := k3.trans k5
          have hz5 := k35.size
          have okm : OkDisk A.burn.more := ok.burn.more (by rw [b2]; exact h1)
          have hnm : name ≠ [] := by rintro rfl; cases hr
          have hnow : A.burn.more.now = A.now := burn_now A
          have hlen : fsl'.len = A.files.length + 1 := by
            have := own4.len
            rw [List.length_append, b2] at this
            simpa using this
          -- what is behind the directory
          have fin : ∀ (s' : Sl) (h6 h7 : Heap) (S : PP), (∀ h', Shal.Loc w 139 [.int .i64 (A.burn.more.room : Int), .slice fsl'.p fsl'.len fsl'.cap, .slice dsl.p dsl.len dsl.cap, .bool A.burn.more.off, .int .i64 (A.burn.more.fuse : Int)] h' → S h') → Own h5.size 155 2 encN h6 s' (insD (name, A.files.length) A.now) → Ext h5 h6 → Ext h6 h7 → Sees 1 (fun s => [encSl s]) h7 ⟨some ⟨h6.size, 0, none⟩, 1, 1⟩ [s'] →
              appP 152 1 24 #[.slice none 0 0] dsl.p dsl.len dsl.cap (.slice (some ⟨h6.size, 0, none⟩) 1 1) (fun (p21 : Option Addr) (k22 c23 : Nat) =>
                      withS S (
                        nilP (some ⟨w, 0, none⟩) fun (a24 : Addr) =>
                        stP (.slice) (a24.add 2) (⟨p21, k22, c23⟩ : Sl) (
                        Q (0 : Int)))) h7 := by
            intro s' h6 h7 S hS o6 u56 u67 s7
            have p7 := p5.ext (u56.trans u67)
            have hr' := p7.rlen
            have hz6 := u56.size
            have hz7 := u67.size
            refine app_sl (t := ⟨some ⟨h6.size, 0, none⟩, 1, 1⟩) (enc := fun s => [encSl s]) (fun _ => rfl) (fun x v hv => by simp at hv; subst hv; rfl) rfl p7.dirs s7 (by omega) (by rw [hr', show A.burn.more.chgs = A.burn.chgs from rfl, b4]; simp; omega) fun dsl' h8 own8 b8 g8 => ?_
            have hdw : dsl.p.map (·.block) ≠ some w := p7.dirs.rowne p7.cell (by decide)
            have cell8 := p7.cell.but b8 hdw
            refine with_of (hS _ cell8) ?_
            rw [nilP_some]
            refine st_loc (s := .slice) cell8 (by simp) (by decide) fun h9 l9 o9 => ?_
            have happ : applyC A.burn.more.now ⟨[], name, A.files.length⟩ = insD (name, A.files.length) A.now := by
              unfold applyC
              rw [if_neg hnm, if_pos rfl, hnow]
              congr 1
              unfold without
              rw [List.filter_eq_self]
              intro q hq
              simpa using findD_none hf q hq
            obtain ⟨p9, k9⟩ := p7.addDir (c := ⟨[], name, A.files.length⟩) b8 own8 (by rw [happ]; exact (o6.view encN_len).ext u67) (new_ne (h1 := h8) g8 hdw p7.cell.lt) o9 l9
            have e : A.burn.files.length = A.files.length := by rw [b2]
            dsimp only at hQ okc
            rw [e] at hQ okc
            exact hQ h9 ⟨fsl', dsl', _, p9, okc⟩ ((k35.trans ((u56.trans u67).keep _ _)).trans k9)
          refine draw_loc p5.cell ?_
          rw [nilP_some]
          refine ldG_loc (s := .slice) (x := dsl) rfl ?_
          rw [nilP_some]
          refine ldG_loc (s := .slice) (x := fsl') rfl ?_
          have ewrap : IntKind.wrap .i64 ((fsl'.len : Int) - 1) = ((A.files.length : Nat) : Int) := by rw [hlen, wi (by omega) (by omega)]; omega
          rw [ewrap]
          refine ⟨?_, with_of p5.cell ?_⟩
          · refine now_spec p5 okm.nchgs fun s hv _ => with_of p5.cell (with_of p5.cell ?_)
            rw [hnow] at hv
            refine with_spec (x := (name, A.files.length)) hv.sees hn fun s' h6 o6 u6 => with_of (p5.cell.ext u6) ?_
            refine newP_sees (k := 1) (enc := fun s => [encSl s]) (xs := [s']) (fun _ => rfl) rfl rfl fun h7 u7 z7 s7 => with_of ((p5.cell.ext u6).ext u7) ?_
            exact fin s' h6 h7 _ (fun _ hh => hh) o6 u6 u7 s7
          · refine now_spec p5 okm.nchgs fun s hv _ => with_of p5.cell ?_
            rw [hnow] at hv
            refine with_spec (x := (name, A.files.length)) hv.sees hn fun s' h6 o6 u6 => with_of (p5.cell.ext u6) ?_
            refine newP_sees (k := 1) (enc := fun s => [encSl s]) (xs := [s']) (fun _ => rfl) rfl rfl fun h7 u7 z7 s7 => with_of ((p5.cell.ext u6).ext u7) ?_
            exact fin s' h6 h7 _ (fun _ hh => hh) o6 u6 u7 s7
end
end Go.Proofs.W
end
