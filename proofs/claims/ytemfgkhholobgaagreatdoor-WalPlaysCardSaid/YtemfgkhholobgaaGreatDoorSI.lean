/- Layer 5: the document's disk in memory. Layer 5: the document's disk: names and directories. Layer 5: the document's disk: directories with and without a name. Rows that are turned in place. -/
import Derived.Test.YtemfgkhholobgaaGreatDoorSG
import Derived.Test.YtemfgkhholobgaaGreatDoorCE
section
set_option maxRecDepth 100000
set_option linter.unusedVariables false
namespace Go.Proofs.W
open Go Go.Shal Go.Proofs Go.M
/-- What the document's disk turns. -/
def MR : Obj → Bool := rowsOf [139, 226, 152]
abbrev encR (f : FileV) : List Value := [encS f.data, .int .i64 (f.kept : Int)]
abbrev encSl (s : Sl) : Value := .slice s.p s.len s.cap
abbrev encN (p : List UInt8 × Nat) : List Value := [encS p.1, .int .i64 (p.2 : Int)]
theorem encR_len (f : FileV) : (encR f).length = 2 := rfl
theorem encN_len (p : List UInt8 × Nat) : (encN p).length = 2 := rfl
theorem encR_one (f : FileV) : ∀ v ∈ encR f, v.oneCell' = true := by
  intro v hv
  simp at hv
  rcases hv with rfl | rfl <;> rfl
theorem encN_one (f : List UInt8 × Nat) : ∀ v ∈ encN f, v.oneCell' = true := by
  intro v hv
  simp at hv
  rcases hv with rfl | rfl <;> rfl
structure RDr (B w : Nat) (A : DiskA) (fsl dsl : Sl) (raw : List Sl) (h : Heap) : Prop where
  low : B ≤ w
  cell : Shal.Loc w 139 [.int .i64 (A.room : Int), .slice fsl.p fsl.len fsl.cap, .slice dsl.p dsl.len dsl.cap, .bool A.off, .int .i64 (A.fuse : Int)] h
  files : Own B 226 2 encR h fsl A.files
  dirs : Own B 152 1 (fun s => [encSl s]) h dsl raw
  rlen : raw.length = A.chgs.length + 1
  each : ∀ (i : Nat) (s : Sl), raw[i]? = some s → View B 155 2 encN h s (A.dirAt i)
/-- Block w is the document's disk A. -/
def RD (B w : Nat) (A : DiskA) (h : Heap) : Prop := ∃ fsl dsl raw, RDr B w A fsl dsl raw h ∧ OkDisk A
theorem RDr.keep {B w B' : Nat} {A : DiskA} {fsl dsl : Sl} {raw : List Sl} {M : Obj → Bool} {h h' : Heap} (p : RDr B w A fsl dsl raw h) (k : Keep B' M h h') (hB : B ≤ B')
    (hM : ∀ T, memN T [139, 226, 152, 155] = true → ∀ cs, M (.cells cs T (0, 0)) = false) : RDr B w A fsl dsl raw h' :=
  ⟨p.low, p.cell.keep k (.inr (hM _ rfl _)), p.files.keepM k (hM 226 rfl), p.dirs.keepM k (hM 152 rfl), p.rlen, fun i s hs => (p.each i s hs).keep k hB (hM 155 rfl)⟩
theorem RD.keep {B w B' : Nat} {A : DiskA} {M : Obj → Bool} {h h' : Heap} (p : RD B w A h) (k : Keep B' M h h') (hB : B ≤ B') (hM : ∀ T, memN T [139, 226, 152, 155] = true → ∀ cs, M (.cells cs T (0, 0)) = false) : RD B w A h' :=
  let ⟨a, b, c, q, ok⟩ := p
  ⟨a, b, c, q.keep k hB hM, ok⟩
theorem RDr.ext {B w : Nat} {A : DiskA} {fsl dsl : Sl} {raw : List Sl} {h h' : Heap} (p : RDr B w A fsl dsl raw h) (u : Ext h h') : RDr B w A fsl dsl raw h' := p.keep (u.keep B none_) (Nat.le_refl _) fun _ _ _ => rfl
theorem RD.ext {B w : Nat} {A : DiskA} {h h' : Heap} (p : RD B w A h) (u : Ext h h') : RD B w A h' := p.keep (u.keep B none_) (Nat.le_refl _) fun _ _ _ => rfl
theorem memN_iff {t : Nat} : ∀ {l : List Nat}, memN t l = true ↔ t ∈ l
  | [] => by simp [memN]
  | x :: l => by
    unfold memN
    rw [List.mem_cons]
    cases hb : Nat.beq t x with
    | true => simp [Nat.eq_of_beq_eq_true hb]
    | false =>
      have hne : t ≠ x := fun h => by rw [h, Nat.beq_refl] at hb; cases hb
      simp [hne, memN_iff (l := l)]
/-- The two disks do not touch each other. -/
theorem PD.other {B d : Nat} {A : DiskA} {h h' : Heap} (p : PD B d A h) (k : Keep B MR h h') : PD B d A h' :=
  p.keep k (fun _ _ => rfl) fun T hT cs => by
    have := memN_iff.1 hT
    simp only [List.mem_cons, List.not_mem_nil, or_false] at this
    rcases this with rfl | rfl | rfl | rfl <;> rfl
theorem RD.other {B w : Nat} {A : DiskA} {h h' : Heap} (p : RD B w A h) (k : Keep B MP h h') : RD B w A h' :=
  p.keep k (Nat.le_refl _) fun T hT cs => by
    have := memN_iff.1 hT
    simp only [List.mem_cons, List.not_mem_nil, or_false] at this
    rcases this with rfl | rfl | rfl | rfl <;> rfl
section
variable {B w : Nat} {A : DiskA} {h : Heap} {fsl dsl : Sl} {raw : List Sl}
theorem RDr.last (p : RDr B w A fsl dsl raw h) : ∃ s, raw[A.chgs.length]? = some s ∧ View B 155 2 encN h s A.now := by
  have hr := p.rlen
  have e : raw[A.chgs.length]? = some raw[A.chgs.length] := List.getElem?_eq_getElem (by omega)
  refine ⟨_, e, ?_⟩
  have := p.each _ _ e
  rw [DiskA.dirAt_now] at this
  exact this
theorem now_spec {Q : Sl → PP} (p : RDr B w A fsl dsl raw h) (hn : A.chgs.length ≤ 1000000000) (hQ : ∀ s, View B 155 2 encN h s A.now → raw[A.chgs.length]? = some s → Q s h) : ref05_Disk_Now.C (some ⟨w, 0, none⟩) Q h := by
  apply ref05_Disk_Now.ok
  unfold ref05_Disk_Now.F
  obtain ⟨s, hs, hv⟩ := p.last
  have hl := p.dirs.len
  have hr := p.rlen
  refine draw_ext ?_
  rw [nilP_some]
  refine ldG_ext (s := .slice) (x := dsl) (p.cell.cell (n := 2) rfl) ?_
  rw [nilP_some]
  refine ldG_ext (s := .slice) (x := dsl) (p.cell.cell (n := 2) rfl) ?_
  rw [wi (by omega) (by omega)]
  refine Sees.idx1 (enc := encSl) (Own.sees (enc := fun s => [encSl s]) (k := 1) (fun _ => rfl) p.dirs) (n := A.chgs.length) (by omega) hs fun a ha => ?_
  refine ldG_ext (s := .slice) (x := s) ha ?_
  exact hQ s hv hs
theorem find_spec {name : Bytes} {Q : Int → PP} (p : RDr B w A fsl dsl raw h) (ok : OkDisk A) (hn : A.now.length ≤ 1000000000)
    (hQ : Q (match findD A.now name with
      | none => -1
      | some k => (k : Int)) h) : ref05_Disk_find.C (some ⟨w, 0, none⟩) name Q h := by
  apply ref05_Disk_find.ok
  unfold ref05_Disk_find.F
  refine now_spec p ok.nchgs fun s hv _ => ?_
  have hl := hv.sees.len
  refine ⟨fun _ i h' => ∃ k : Nat, k ≤ A.now.length ∧ i = (k : Int) ∧ (∀ q ∈ A.now.take k, q.1 ≠ name) ∧ h' = h, fun _ i _ => A.now.length - i.toNat, ⟨0, by omega, rfl, by simp, rfl⟩, ?_⟩
  rintro ⟨_, i, _⟩ h1 ⟨k, hk, hi, hno, rfl⟩
  dsimp only at hi
  subst hi
  refine ifB_of (fun hc => ?_) (fun hc => ?_)
  · have hk1 : k < A.now.length := by have := of_decide_eq_true hc; dsimp only at this; omega
    dsimp only
    refine Sees.idx encN_len hv.sees rfl (List.getElem?_eq_getElem hk1) fun a ha => ?_
    refine ld_of (s := .str) (x := A.now[k].1) (ha 0 _ rfl) ?_
    refine ifB_of (fun hb => ?_) (fun hb => ?_)
    · have he : A.now[k].1 = name := by simpa using hb
      refine Sees.idx encN_len hv.sees rfl (List.getElem?_eq_getElem hk1) fun a ha => ?_
      refine ld_of (s := .int .i64) (x := (A.now[k].2 : Int)) (ha 1 _ rfl) ?_
      have : findD A.now name = some A.now[k].2 := findD_of ok.now (by rw [← he]; exact List.getElem_mem hk1)
      rw [this] at hQ
      exact hQ
    · have hne : A.now[k].1 ≠ name := by simpa using hb
      rw [wi (by omega) (by omega)]
      refine ⟨⟨k + 1, by omega, rfl, fun q hq => ?_, rfl⟩, by dsimp only [unc]; omega⟩
      rw [List.take_succ_eq_append_getElem hk1, List.mem_append, List.mem_singleton] at hq
      rcases hq with hq | rfl
      · exact hno q hq
      · exact hne
  · have hk1 : k = A.now.length := by have := of_decide_eq_false hc; dsimp only at this; omega
    subst hk1
    rw [List.take_length] at hno
    cases hf : findD A.now name with
    | none => rw [hf] at hQ; exact hQ
    | some j => exact absurd rfl (hno _ (findD_some hf))
theorem goes_spec {Q : Bool → PP} (p : RDr B w A fsl dsl raw h) (hfu : A.fuse < 9223372036854775808) (hon : A.off = false) (hQ : ∀ h', RDr B w A.burn fsl dsl raw h' → Only w h h' → Q (!A.burn.off) h') : ref05_Disk_goes.C (some ⟨w, 0, none⟩) Q h := by
  apply ref05_Disk_goes.ok
  unfold ref05_Disk_goes.F
  refine join_u (fun h' => Shal.Loc w 139 [.int .i64 (A.room : Int), .slice fsl.p fsl.len fsl.cap, .slice dsl.p dsl.len dsl.cap, .bool (decide (A.fuse = 1)), .int .i64 (A.fuse : Int)] h' ∧ Only w h h') ?_ ?_
  · rw [nilP_some]
    refine ld_loc (s := .int .i64) (x := (A.fuse : Int)) p.cell rfl ?_
    refine ifB_of (fun hb => ?_) (fun hb => ?_)
    · have h1 : A.fuse = 1 := by have : (A.fuse : Int) = 1 := by simpa using hb
                                 omega
      rw [nilP_some]
      refine st_loc (s := .bool) p.cell (by simp) (by decide) fun h2 l2 o2 => ⟨?_, o2⟩
      rw [show decide (A.fuse = 1) = true by simp [h1]]
      exact l2
    · have h1 : A.fuse ≠ 1 := by intro he; rw [he] at hb; simp at hb
      refine ⟨?_, Only.refl _ _⟩
      rw [show decide (A.fuse = 1) = false by simp [h1]]
      have := p.cell
      rw [hon] at this
      exact this
  · rintro h2 ⟨l2, o2⟩
    have fin : ∀ h3, Shal.Loc w 139 [.int .i64 (A.room : Int), .slice fsl.p fsl.len fsl.cap, .slice dsl.p dsl.len dsl.cap, .bool (decide (A.fuse = 1)), .int .i64 ((A.fuse - 1 : Nat) : Int)] h3 → Only w h h3 → RDr B w A.burn fsl dsl raw h3 := by
      intro h3 l3 o3
      obtain ⟨b1, b2, b3, b4⟩ := burn_room A
      have e : A.burn.off = decide (A.fuse = 1) ∧ A.burn.fuse = A.fuse - 1 := by
        unfold DiskA.burn
        split
        · rename_i h0; rw [hon, h0]; exact ⟨rfl, rfl⟩
        · exact ⟨rfl, rfl⟩
      have hdir : ∀ i, A.burn.dirAt i = A.dirAt i := fun i => by unfold DiskA.dirAt; rw [b3, b4]
      refine ⟨p.low, by rw [b1, e.1, e.2]; exact l3, by rw [b2]; exact p.files.only o3 (p.files.rowne p.cell (by decide)), p.dirs.only o3 (p.dirs.rowne p.cell (by decide)), by rw [b4]; exact p.rlen, fun i s hs => ?_⟩
      rw [hdir]
      exact (p.each i s hs).keep (o3.keep (M := rowsOf [139]) p.low p.cell rfl) (Nat.le_refl _) fun _ => rfl
    have hoff : A.burn.off = decide (A.fuse = 1) := by
      unfold DiskA.burn
      split
      · rename_i h0; rw [hon, h0]; rfl
      · rfl
    refine join_u (fun h' => Shal.Loc w 139 [.int .i64 (A.room : Int), .slice fsl.p fsl.len fsl.cap, .slice dsl.p dsl.len dsl.cap, .bool (decide (A.fuse = 1)), .int .i64 ((A.fuse - 1 : Nat) : Int)] h' ∧ Only w h h') ?_ ?_
    · rw [nilP_some]
      refine ld_loc (s := .int .i64) (x := (A.fuse : Int)) l2 rfl ?_
      refine ifB_of (fun hb => ?_) (fun hb => ?_)
      · have hpos := of_decide_eq_true hb
        rw [nilP_some]
        refine ld_loc (s := .int .i64) (x := (A.fuse : Int)) l2 rfl ?_
        rw [nilP_some, wi (by omega) (by omega), show (A.fuse : Int) - 1 = ((A.fuse - 1 : Nat) : Int) by omega]
        refine st_loc (s := .int .i64) l2 (by simp) (by decide) fun h3 l3 o3 => ⟨l3, o2.trans o3⟩
      · have := of_decide_eq_false hb
        have h0 : A.fuse = 0 := by omega
        rw [h0] at l2
        rw [h0]
        exact ⟨l2, o2⟩
    · rintro h3 ⟨l3, o3⟩
      rw [nilP_some]
      refine ld_loc (s := .bool) (x := decide (A.fuse = 1)) l3 rfl ?_
      rw [← hoff]
      exact hQ h3 (fin h3 l3 o3) o3
end
end Go.Proofs.W
end
section
set_option maxRecDepth 100000
set_option linter.unusedVariables false
namespace Go.Proofs.W
open Go Go.Shal Go.Proofs Go.M
theorem held_spec {n m : Int} {h : Heap} {Q : Int → PP} (hQ : Q (if n < 0 then 0 else if n > m then m else n) h) : ref05_held.C n m Q h := by
  apply ref05_held.ok
  unfold ref05_held.F
  refine ifB_of (fun hb => ?_) (fun hb => ?_)
  · rw [if_pos (of_decide_eq_true hb)] at hQ; exact hQ
  · rw [if_neg (of_decide_eq_false hb)] at hQ
    refine ifB_of (fun hb => ?_) (fun hb => ?_)
    · rw [if_pos (of_decide_eq_true hb)] at hQ; exact hQ
    · rw [if_neg (of_decide_eq_false hb)] at hQ; exact hQ
theorem held_nat {n : Int} {m : Nat} : (if n < 0 then (0 : Int) else if n > (m : Int) then (m : Int) else n) = ((min n.toNat m : Nat) : Int) := by
  split
  · omega
  · split <;> omega
theorem rright_spec {name : Bytes} {h : Heap} {Q : Bool → PP} (hl : name.length < 4611686018427387904) (hQ : Q (rightB name) h) : ref05_Right.C name Q h := by
  apply ref05_Right.ok
  unfold ref05_Right.F
  refine join_b (decide (¬ (1 ≤ name.length ∧ name.length ≤ 24))) (fun h' => h' = h) ?_ ?_
  · refine ifB_of (fun hb => ?_) (fun hb => ?_)
    · have := of_decide_eq_true hb
      exact ⟨by symm; rw [decide_eq_true_eq]; omega, rfl⟩
    · have := of_decide_eq_false hb
      refine ⟨?_, rfl⟩
      rw [decide_eq_decide]
      omega
  · rintro h1 rfl
    refine ifB_of (fun hb => ?_) (fun hb => ?_)
    · have hb := of_decide_eq_true hb
      have : rightB name = false := by
        unfold rightB
        rw [Bool.eq_false_iff]
        simp only [ne_eq, Bool.and_eq_true, decide_eq_true_eq]
        rintro ⟨h1, _⟩
        exact hb h1
      rw [this] at hQ
      exact hQ
    · have hb := of_decide_eq_false hb
      rw [Decidable.not_not] at hb
      refine ⟨fun _ i h' => ∃ k : Nat, k ≤ name.length ∧ i = (k : Int) ∧ (name.take k).all okC = true ∧ h' = h1, fun _ i _ => name.length - i.toNat, ⟨0, by omega, rfl, by simp, rfl⟩, ?_⟩
      rintro ⟨_, i, _⟩ h2 ⟨k, hk, hi, hall, rfl⟩
      dsimp only at hi hall
      subst hi
      refine ifB_of (fun hc => ?_) (fun hc => ?_)
      · have hk1 : k < name.length := by have := of_decide_eq_true hc; dsimp only at this; omega
        dsimp only
        refine atS_of (n := k) rfl (List.getElem?_eq_getElem hk1) ?_
        generalize hcc : name[k] = c
        refine join_b (!okC c) (fun h' => h' = h2) ?_ ?_
        · have key : okC c = true ↔ (97 ≤ c.toNat ∧ c.toNat ≤ 122) ∨ (48 ≤ c.toNat ∧ c.toNat ≤ 57) ∨ c.toNat = 46 ∨ c.toNat = 45 := by
            unfold okC
            simp only [Bool.or_eq_true, Bool.and_eq_true, decide_eq_true_eq, or_assoc]
          have tt : ∀ {b : Bool}, b = true → (¬ (97 ≤ c.toNat ∧ c.toNat ≤ 122) ∧ ¬ (48 ≤ c.toNat ∧ c.toNat ≤ 57) ∧ c.toNat ≠ 46 ∧ c.toNat ≠ 45) → b = !okC c ∧ h2 = h2 := by
            intro b hb hh
            refine ⟨?_, rfl⟩
            rw [hb]
            cases ho : okC c with
            | false => rfl
            | true => have := key.1 ho; omega
          have ff : ∀ {b : Bool}, b = false → ((97 ≤ c.toNat ∧ c.toNat ≤ 122) ∨ (48 ≤ c.toNat ∧ c.toNat ≤ 57) ∨ c.toNat = 46 ∨ c.toNat = 45) → b = !okC c ∧ h2 = h2 := by
            intro b hb hh
            refine ⟨?_, rfl⟩
            rw [hb, key.2 hh]
            rfl
          have tail : (¬ (97 ≤ c.toNat ∧ c.toNat ≤ 122) ∧ ¬ (48 ≤ c.toNat ∧ c.toNat ≤ 57)) → (ifB ((c.toNat : Int) != (46 : Int)) (fun h' => ((c.toNat : Int) != (45 : Int)) = !okC c ∧ h' = h2) (fun h' => false = !okC c ∧ h' = h2)) h2 := by
            intro hh
            refine ifB_of (fun h1 => ?_) (fun h1 => ?_)
            · have h46 : c.toNat ≠ 46 := by intro he; rw [he] at h1; simp at h1
              by_cases h45 : c.toNat = 45
              · exact ff (by rw [h45]; rfl) (by omega)
              · exact tt (by simp; omega) ⟨hh.1, hh.2, h46, h45⟩
            · have h46 : c.toNat = 46 := by have : (c.toNat : Int) = 46 := by simpa using h1
                                            omega
              exact ff rfl (by omega)
          have mid : ¬ (97 ≤ c.toNat ∧ c.toNat ≤ 122) → (ifB (decide ((c.toNat : Int) ≥ (48 : Int))) (ifB (!(decide ((c.toNat : Int) ≤ (57 : Int)))) (ifB ((c.toNat : Int) != (46 : Int)) (fun h' => ((c.toNat : Int) != (45 : Int)) = !okC c ∧ h' = h2) (fun h' => false = !okC c ∧ h' = h2)) (fun h' => false = !okC c ∧ h' = h2)) (ifB (!false) (ifB ((c.toNat : Int) != (46 : Int)) (fun h' => ((c.toNat : Int) != (45 : Int)) = !okC c ∧ h' = h2) (fun h' => false = !okC c ∧ h' = h2)) (fun h' => false = !okC c ∧ h' = h2))) h2 := by
            intro hh
            refine ifB_of (fun h1 => ?_) (fun h1 => ?_)
            · have h48 := of_decide_eq_true h1
              refine ifB_of (fun h1 => ?_) (fun h1 => ?_)
              · have : ¬ ((c.toNat : Int) ≤ 57) := by simpa using h1
                exact tail ⟨hh, by omega⟩
              · have : ((c.toNat : Int) ≤ 57) := by simpa using h1
                exact ff rfl (by omega)
            · have := of_decide_eq_false h1
              rw [ifB_of_true (by rfl)]
              exact tail ⟨hh, by omega⟩
          refine ifB_of (fun h1 => ?_) (fun h1 => ?_)
          · have h97 := of_decide_eq_true h1
            refine ifB_of (fun h1 => ?_) (fun h1 => ?_)
            · have : ¬ ((c.toNat : Int) ≤ 122) := by simpa using h1
              exact mid (by omega)
            · have : ((c.toNat : Int) ≤ 122) := by simpa using h1
              exact ff rfl (by omega)
          · have := of_decide_eq_false h1
            rw [ifB_of_true (by rfl)]
            exact mid (by omega)
        · rintro h2 rfl
          refine ifB_of (fun hb => ?_) (fun hb => ?_)
          · have hbad : okC c = false := by simpa using hb
            have : rightB name = false := by
              unfold rightB
              have : name.all okC = false := by
                rw [List.all_eq_false]
                exact ⟨_, List.getElem_mem hk1, by rw [hcc]; simpa using hbad⟩
              rw [this]
              simp
            rw [this] at hQ
            exact hQ
          · have hgood : okC c = true := by simpa using hb
            rw [wi (by omega) (by omega)]
            refine ⟨⟨k + 1, by omega, rfl, ?_, rfl⟩, by dsimp only [unc]; omega⟩
            rw [List.take_succ_eq_append_getElem hk1, List.all_append, hall, hcc]
            simpa using hgood
      · have hk1 : k = name.length := by have := of_decide_eq_false hc; dsimp only at this; omega
        subst hk1
        rw [List.take_length] at hall
        have : rightB name = true := by
          unfold rightB
          rw [hall]
          simp
          omega
        rw [this] at hQ
        exact hQ
end Go.Proofs.W
end
section
set_option maxRecDepth 100000
set_option linter.unusedVariables false
namespace Go.Proofs.W
open Go Go.Shal Go.Proofs Go.M
theorem _root_.Go.Shal.Keep.trans' {a b c : Heap} (h : Ext a b) (k : Up a.size b c) : Ext a c := ((h.up a.size).trans k).ext
theorem bytesLess_lt : ∀ x y : List UInt8, Op.bytesLess x y = decide (x < y)
  | x, [] => by
    unfold Op.bytesLess
    symm
    rw [decide_eq_false_iff_not]
    exact List.not_lt_nil x
  | [], b :: y => by
    unfold Op.bytesLess
    symm
    rw [decide_eq_true_eq]
    exact List.nil_lt_cons b y
  | a :: x, b :: y => by
    unfold Op.bytesLess
    rw [bytesLess_lt x y, Bool.eq_iff_iff]
    simp only [Bool.or_eq_true, Bool.and_eq_true, decide_eq_true_eq, beq_iff_eq]
    rw [List.cons_lt_cons_iff]
theorem without_spec {h : Heap} {s : Sl} {l : Dir} {name : Bytes} {Q : Sl → PP} (hs : Sees 2 encN h s l) (hl : l.length ≤ 1000000000)
    (hQ : ∀ s' h', Own h.size 155 2 encN h' s' (without l name) → Ext h h' → Q s' h') : ref05_without.C s name Q h := by
  apply ref05_without.ok
  unfold ref05_without.F
  have hlen := hs.len
  refine ⟨fun t i h' => ∃ k : Nat, k ≤ l.length ∧ i = (k : Int) ∧ Own h.size 155 2 encN h' t (without (l.take k) name) ∧ Up h.size h h', fun _ i _ => l.length - i.toNat, ⟨0, by omega, rfl, Own.nil _ _ _ _ _, Up.refl _ _⟩, ?_⟩
  rintro ⟨t, i, _⟩ h1 ⟨k, hk, hi, o1, u1⟩
  dsimp only at hi o1 u1
  subst hi
  refine ifB_of (fun hc => ?_) (fun hc => ?_)
  · have hk1 : k < l.length := by have := of_decide_eq_true hc; dsimp only at this; omega
    dsimp only
    refine join_1 (s := .slice) (fun t' h' => Own h.size 155 2 encN h' t' (without (l.take (k + 1)) name) ∧ Up h.size h h') ?_ ?_
    · refine Sees.idx encN_len (hs.ext u1.ext) rfl (List.getElem?_eq_getElem hk1) fun a ha => ?_
      refine ld_of (s := .str) (x := l[k].1) (ha 0 _ rfl) ?_
      have e : without (l.take (k + 1)) name = without (l.take k) name ++ (if l[k].1 = name then [] else [l[k]]) := by
        rw [List.take_succ_eq_append_getElem hk1]
        unfold without
        rw [List.filter_append]
        congr 1
        by_cases he : l[k].1 = name <;> simp [he]
      refine ifB_of (fun hb => ?_) (fun hb => ?_)
      · have hne : l[k].1 ≠ name := by simpa using hb
        rw [if_neg hne] at e
        refine Sees.idx encN_len (hs.ext u1.ext) rfl (List.getElem?_eq_getElem hk1) fun a ha => ?_
        refine lds_at (l := [.str, .int .i64]) (l[k].1, (l[k].2 : Int), ()) ha ?_
        dsimp only [unc]
        have hwl : (without (l.take k) name).length ≤ k := by
          have := without_len (l.take k) name
          rw [List.length_take] at this
          omega
        have hz := u1.size
        refine app_one (enc := encN) (x := l[k]) encN_len encN_one rfl rfl o1 hz (by omega) fun t' h2 o2 b2 _ => ?_
        rw [e]
        exact ⟨o2, u1.trans (b2.up o1.low)⟩
      · have he : l[k].1 = name := by simpa using hb
        rw [if_pos he, List.append_nil] at e
        rw [e]
        exact ⟨o1, u1⟩
    · rintro t' h2 ⟨o2, u2⟩
      rw [wi (by omega) (by omega)]
      exact ⟨⟨k + 1, by omega, rfl, o2, u2⟩, by dsimp only [unc]; omega⟩
  · have hk1 : k = l.length := by have := of_decide_eq_false hc; dsimp only at this; omega
    subst hk1
    rw [List.take_length] at o1
    exact hQ t h1 o1 u1.ext
/-- The state of the loop of 'with'. -/
def withB (x : List UInt8 × Nat) (l : Dir) (put : Bool) : Dir := if put then l else insD x l
theorem with_spec {h : Heap} {s : Sl} {l : Dir} {x : List UInt8 × Nat} {Q : Sl → PP} (hs : Sees 2 encN h s l) (hl : l.length ≤ 1000000000)
    (hQ : ∀ s' h', Own h.size 155 2 encN h' s' (insD x l) → Ext h h' → Q s' h') : ref05_with.C s x.1 (x.2 : Int) Q h := by
  apply ref05_with.ok
  unfold ref05_with.F
  have hlen := hs.len
  refine newP_loc fun h0 u0 z0 l0 => ?_
  refine ⟨fun t put i h' => ∃ (k : Nat) (done : Dir), k ≤ l.length ∧ i = (k : Int) ∧ done.length ≤ k + 1 ∧ Own h0.size 155 2 encN h' t done ∧ Ext h0 h' ∧ done ++ withB x (l.drop k) put = insD x l, fun _ _ i _ => l.length - i.toNat, ⟨0, [], by omega, rfl, by simp, Own.nil _ _ _ _ _, Ext.refl _, by simp [withB]⟩, ?_⟩
  rintro ⟨t, put, i, _⟩ h1 ⟨k, done, hk, hi, hd, o1, u1, he⟩
  dsimp only at hi o1 u1 he
  subst hi
  have l1 := l0.ext u1
  have u01 := u0.trans u1
  refine ifB_of (fun hc => ?_) (fun hc => ?_)
  · have hk1 : k < l.length := by have := of_decide_eq_true hc; dsimp only at this; omega
    have hdrop : l.drop k = l[k] :: l.drop (k + 1) := List.drop_eq_getElem_cons hk1
    dsimp only
    have hz := u01.size
    refine ⟨fun t' put' h' => ∃ done' : Dir, done'.length ≤ k + 1 ∧ Own h0.size 155 2 encN h' t' done' ∧ Ext h0 h' ∧ done' ++ l[k] :: withB x (l.drop (k + 1)) put' = insD x l, ?_, ?_⟩
    · refine join_b (!put && decide (x.1 < l[k].1)) (fun h' => h' = h1) ?_ ?_
      · refine draw_ext ?_
        refine ifB_of (fun hb => ?_) (fun hb => ?_)
        · have hp : put = false := by simpa using hb
          refine ldG_ext (s := .str) (x := x.1) (l1.cell (n := 0) rfl) ?_
          refine Sees.idx encN_len (hs.ext u01) rfl (List.getElem?_eq_getElem hk1) fun a ha => ?_
          refine ldG_ext (s := .str) (x := l[k].1) (ha 0 _ rfl) ⟨?_, rfl⟩
          rw [bytesLess_lt, hp]
          rfl
        · have hp : put = true := by simpa using hb
          exact ⟨by rw [hp]; rfl, rfl⟩
      · rintro h2 rfl
        refine ifB_of (fun hb => ?_) (fun hb => ?_)
        · rw [Bool.and_eq_true, decide_eq_true_eq, Bool.not_eq_true'] at hb
          refine lds_loc (l := [.str, .int .i64]) (x.1, (x.2 : Int), ()) l1 ?_
          dsimp only [unc]
          refine app_one (enc := encN) (x := x) encN_len encN_one rfl rfl o1 u1.size (by omega) fun t' h3 o3 b3 _ => ?_
          refine ⟨done ++ [x], ?_, o3, u1.trans' (b3.up o1.low), ?_⟩
          · rw [List.length_append, List.length_singleton]
            have : done.length ≤ k := by
              have h1 := congrArg List.length he
              rw [List.length_append, (insD_perm x l).length_eq, List.length_cons] at h1
              unfold withB at h1
              rw [hb.1, if_neg (by decide), (insD_perm x _).length_eq, List.length_cons, List.length_drop] at h1
              omega
            omega
          · rw [← he, hdrop]
            rw [hb.1]
            show done ++ [x] ++ l[k] :: l.drop (k + 1) = done ++ insD x (l[k] :: l.drop (k + 1))
            rw [insD, if_pos hb.2, List.append_assoc]
            rfl
        · refine ⟨done, hd, o1, u1, ?_⟩
          rw [← he, hdrop]
          congr 1
          unfold withB
          cases put with
          | true => rfl
          | false =>
            have hn : ¬ x.1 < l[k].1 := by simpa using hb
            show l[k] :: insD x (l.drop (k + 1)) = insD x (l[k] :: l.drop (k + 1))
            rw [insD, if_neg hn]
    · rintro ⟨t', put', _⟩ h2 ⟨done', hd', o2, u2, he'⟩
      dsimp only [unc] at o2 u2 he' ⊢
      have u02 := u0.trans u2
      refine Sees.idx encN_len (hs.ext u02) rfl (List.getElem?_eq_getElem hk1) fun a ha => ?_
      refine lds_at (l := [.str, .int .i64]) (l[k].1, (l[k].2 : Int), ()) ha ?_
      dsimp only [unc]
      refine app_one (enc := encN) (x := l[k]) encN_len encN_one rfl rfl o2 u2.size (by omega) fun t3 h3 o3 b3 _ => ?_
      rw [wi (by omega) (by omega)]
      refine ⟨⟨k + 1, done' ++ [l[k]], by omega, rfl, by simp; omega, o3, u2.trans' (b3.up o2.low), by rw [← he']; simp⟩, by dsimp only [unc]; omega⟩
  · have hk1 : k = l.length := by have := of_decide_eq_false hc; dsimp only at this; omega
    subst hk1
    rw [List.drop_length] at he
    have hz0 := u0.size
    refine ifB_of (fun hb => ?_) (fun hb => ?_)
    · have hp : put = false := by simpa using hb
      rw [hp] at he
      refine lds_loc (l := [.str, .int .i64]) (x.1, (x.2 : Int), ()) l1 ?_
      dsimp only [unc]
      refine app_one (enc := encN) (x := x) encN_len encN_one rfl rfl o1 u1.size (by omega) fun t' h3 o3 b3 _ => ?_
      have : done ++ [x] = insD x l := he
      rw [this] at o3
      exact hQ t' h3 (o3.mono hz0) (u0.trans (u1.trans' (b3.up o1.low)))
    · have hp : put = true := by simpa using hb
      rw [hp] at he
      have : done = insD x l := by simpa [withB] using he
      rw [this] at o1
      exact hQ t h1 (o1.mono hz0) u01
end Go.Proofs.W
end
section
set_option maxRecDepth 100000
set_option linter.unusedVariables false
namespace Go.Proofs.W
open Go Go.Shal Go.Proofs
theorem flat_set {α : Type} {k : Nat} {enc : α → List Value} (hk : ∀ x, (enc x).length = k) : ∀ (xs : List α) (i j : Nat) (x x' : α) (v : Value), xs[i]? = some x → j < k → (enc x).set j v = enc x' → (xs.flatMap enc).set (i * k + j) v = (xs.set i x').flatMap enc
  | [], i, j, x, x', v, hx, _, _ => by simp at hx
  | y :: ys, 0, j, x, x', v, hx, hj, hv => by
    simp at hx
    subst hx
    rw [List.flatMap_cons, List.set_append_left _ _ (by rw [hk]; omega), Nat.zero_mul, Nat.zero_add, hv, List.set_cons_zero, List.flatMap_cons]
  | y :: ys, i + 1, j, x, x', v, hx, hj, hv => by
    rw [List.flatMap_cons, List.set_append_right _ _ (by rw [hk, Nat.succ_mul]; omega), hk, List.set_cons_succ, List.flatMap_cons, ← flat_set hk ys i j x x' v (by simpa using hx) hj hv]
    congr 2
    rw [Nat.succ_mul]
    omega
/-- A cell of an element of an owned row is set. -/
theorem own_idx_st {α : Type} {B T k j n : Nat} {enc : α → List Value} (hk : ∀ x, (enc x).length = k) {h : Heap} {s : Sl} {xs : List α} {x x' : α} {sc : Sc} {v : sc.T} {i : Int} {K : PP} (ho : Own B T k enc h s xs) (hi : i = (n : Int)) (hx : xs[n]? = some x) (hj : j < k) (hsc : sc ≠ .any)
    (hv : (enc x).set j (sc.inj v) = enc x') (hK : ∀ b h', s.p.map (·.block) = some b → B ≤ b → Own B T k enc h' s (xs.set n x') → Only b h h' → K h') : idxP k s.p s.len i (fun a => stP sc (a.add j) v K) h := by
  subst hi
  have hlen := ho.len
  have hr := ho.row
  have hn := (List.getElem?_eq_some_iff.1 hx).1
  cases hp : s.p with
  | none => rw [hp] at hr; rw [hr.1] at hn; simp at hn
  | some a =>
    obtain ⟨b, o, sp⟩ := a
    rw [hp] at hr
    obtain ⟨e1, e2, e3, cs, e4, e5, e6, e7, e8⟩ := hr
    simp only at e1 e2 e3 e4
    subst e1 e2
    refine idx_const (k := n) rfl (by omega) ?_
    rw [add_add]
    have hl : Shal.Loc b T cs.toList h := e4
    have hb : n * k + j < xs.length * k := by
      have := Nat.mul_le_mul_right k (show n + 1 ≤ xs.length by omega)
      rw [Nat.succ_mul] at this
      omega
    have hb2 : xs.length * k ≤ s.cap * k := Nat.mul_le_mul_right k e6
    refine st_loc (s := sc) hl (by rw [Array.length_toList]; omega) hsc fun h' l' o' => hK b h' (by rw [hp]; rfl) e3 ⟨by rw [List.length_set]; exact hlen, ?_⟩ o'
    rw [hp]
    refine ⟨rfl, rfl, e3, _, l', by simp [e5], by rw [List.length_set]; exact e6, ?_, e8⟩
    rw [List.length_set]
    show (cs.toList.set (n * k + j) (sc.inj v)).take (xs.length * k) = _
    rw [List.take_set, e7]
    exact flat_set hk xs n j x x' _ hx hj hv
end Go.Proofs.W
end
