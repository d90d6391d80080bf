/- The library's contracts on maps, as rules of typed calls. Layer 5: how the program's disk lies in memory. Layer 5: the program's disk: power, fuse, files. Layer 5: the program's disk: changes of the directory. -/
import Derived.Test.YtemfgkhholobgaaGreatDoorSB
import Derived.Test.YtemfgkhholobgaaGreatDoorCE
import Derived.Test.YtemfgkhholobgaaGreatDoorIter
import Derived.StringKeys
import Derived.Test.YtemfgkhholobgaaGreatDoorSE
import Derived.Test.YtemfgkhholobgaaGreatDoorMB
section
set_option maxRecDepth 100000
set_option linter.unusedVariables false
namespace Go.Proofs.W
open Go Go.Shal Go.Proofs Go.RowKit
theorem clone_spec {r : Nat} {ps : List (Bytes × Value)} {h : Heap} {Q : Option Nat → PP} (m : MapIs r ps h) (hQ : ∀ h', Ext h h' → h'.size = h.size + 1 → MapIs h.size ps h' → Q (some h.size) h') : maps_Clone_map_string_disk_file_string_disk_file.C (some r) Q h :=
  callT_of fun w hw => by
    subst hw
    obtain ⟨es, c, hb, R⟩ := m
    refine (AnyW.maps_Clone Tryz.mclone126 r es c w hb).mono fun e w' ⟨h1, h2⟩ => ?_
    subst h2
    refine ⟨⟨rfl, rfl, rfl⟩, (some w.heap.size, ()), by rw [h1]; rfl, ?_⟩
    exact hQ _ (Ext.push _ _) (by show (w.heap.push _).size = _; rw [Array.size_push]) ⟨es, c, getElem?_push_new _ _, R⟩
theorem own_of_row {B T : Nat} {w : World} {v : Value} {xs : List Value} {n : Nat} (h : w.ownsRow B T 1 v n xs) : ∃ s : Sl, v = .slice s.p s.len s.cap ∧ s.len = n ∧ (match s.p with
    | none => xs = [] ∧ s.cap = 0
    | some a => a.off = 0 ∧ a.spot = none ∧ B ≤ a.block ∧ ∃ cs, w.heap[a.block]? = some (.cells cs T (0, 0)) ∧ cs.size = s.cap * 1 ∧ n ≤ s.cap ∧ cs.toList.take (n * 1) = xs ∧ s.cap ≤ 9223372036854775807) := by
  obtain ⟨h0, h1 | ⟨g, cap, cur, e1, e2, e3, e4, e5, e6, e7⟩⟩ := h
  · obtain ⟨rfl, rfl⟩ := h1
    exact ⟨⟨none, 0, 0⟩, rfl, rfl, List.eq_nil_of_length_eq_zero (by simpa using h0), rfl⟩
  · exact ⟨⟨some ⟨g, 0, none⟩, n, cap⟩, e1, rfl, rfl, rfl, e2, cur, e3, e6, e4, e7, e5⟩
/-- The names of a map's pairs, in their order. -/
def sortN (l : List Bytes) : List Bytes := l.mergeSort fun x y => decide (x ≤ y)
theorem sortedKeys_spec {r : Nat} {ps : List (Bytes × Value)} {h : Heap} {Q : Sl → PP} (m : MapIs r ps h) (hlen : ps.length ≤ 1000000) (hkeys : ∀ p ∈ ps, p.1.length ≤ 1000000)
    (hQ : ∀ s h', Own h.size 9 1 (fun l => [encS l]) h' s (sortN (ps.map (·.1))) → Ext h h' → Q s h') :
    maps_Keys_map_string_disk_file_string_disk_file.C (some r) (fun v => slices_Sorted_string.C v Q) h := by
  refine callT_of fun w hw => ?_
  subst hw
  refine (callsIn_wide.1 (Tryz.maps_Keys_106 (some r) w)).mono fun e w' ⟨h1, h2⟩ => ?_
  subst h2
  refine ⟨⟨rfl, rfl, rfl⟩, (.func (.func 177) #[] #[.pointer (some ⟨w.heap.size, 0, none⟩)], ()), by rw [h1]; rfl, ?_⟩
  show slices_Sorted_string.C _ Q (w.heap.push (.cells #[.map (some r)] 131 (0, 0)))
  refine callT_of fun w1 hw1 => ?_
  obtain ⟨es, c, hb, R⟩ := m
  obtain ⟨w0, hw0, hh0⟩ : ∃ w0 : World, w0.alloc (.cells #[.map (some r)] 131) = w1 ∧ w0.heap = w.heap := by
    refine ⟨{ w1 with heap := w.heap }, ?_, rfl⟩
    show { w1 with heap := w.heap.push _ } = w1
    rw [← hw1]
  have hsz : es.size = ps.length := by
    have := R.perm.length_eq
    simpa using this
  have hky : ∀ x ∈ es.toList, (keyB x).length ≤ 1000000 := by
    intro x hx
    exact hkeys (kvB x) (R.perm.mem_iff.1 (List.mem_map_of_mem hx))
  let RR : Value → Option (DataW Unit × List MemPlace) := fun _ => some (.nil, [])
  have hrd : ∀ x ∈ es.toList, WideElems.rd Tryz.prog 9 RR x = some (.string (keyB x), .nil) := by
    intro x hx
    unfold WideElems.rd
    rw [R.keys x hx, WideMaps.keyOf_string_mk Tryz.underlying9 (s := bs (keyB x)) (by show (keyB x).length ≤ maxLen; have := hky x hx; unfold maxLen; omega)]
    rfl
  have hrg : ∀ x ∈ es.toList, WideElems.rg Tryz.prog 9 RR x = (.string (keyB x), .nil) := by
    intro x hx
    unfold WideElems.rg
    rw [hrd x hx]
    rfl
  have hown : w0.ownsMap Tryz.prog 9 RR r es.size (.map ((es.toList.map (WideElems.rg Tryz.prog 9 RR)).foldr DataW.insert [])) := by
    refine ⟨es, c, by rw [hh0]; exact hb, ⟨by unfold maxLen; omega, ⟨R.born, R.stamps, ?_⟩, fun x hx => ⟨_, hrd x hx⟩⟩, Nat.le_refl _, rfl⟩
    have hk : es.toList.map (·.key) = (es.toList.map keyB).map fun l => Value.string (bs l) := by
      rw [List.map_map]
      exact List.map_congr_left fun x hx => R.keys x hx
    rw [hk]
    refine List.pairwise_map.2 (R.keysNodup.imp fun {a b} hne he => hne ?_)
    exact bs_inj (by injection he)
  have hms : Maps.size (DataW.map ((es.toList.map (WideElems.rg Tryz.prog 9 RR)).foldr DataW.insert [])) = es.size := by
    show List.length _ = _
    rw [(WideShapes.sorted_perm _).length_eq]
    simp
  have key := Tryz.slices_Sorted_keys_105_106 r es.size _ RR w0 hown (by rw [hms]; unfold maxLen; omega) (by rw [hms]; omega)
  rw [hw0, hh0] at key
  refine (callsIn_wide.1 key).mono fun e w' ⟨v, ss, h1, h2, h3, h4, h5⟩ => ?_
  obtain ⟨s, rfl, hs1, hs2⟩ := own_of_row h3
  refine ⟨same_below h5, (s, ()), by rw [h1]; rfl, ?_⟩
  have hperm : ss.Perm (ps.map (·.1)) := by
    refine h2.trans ?_
    show (List.map (fun p : Lit × DataW Unit => strOf p.1) _).Perm _
    refine ((WideShapes.sorted_perm _).map _).trans ?_
    rw [List.map_map]
    have : es.toList.map ((fun p : Lit × DataW Unit => strOf p.1) ∘ WideElems.rg Tryz.prog 9 RR) = es.toList.map keyB := List.map_congr_left fun x hx => by simp only [Function.comp, hrg x hx, strOf]
    rw [this]
    have := R.perm.map (·.1)
    rw [List.map_map] at this
    exact this
  have hsort : ss.mergeSort (fun x y => decide (x ≤ y)) = sortN (ps.map (·.1)) := mergeSort_of_perm hperm
  have hu : Up w1.heap.size w1.heap w'.heap := up_below h5
  refine hQ s _ ⟨?_, ?_⟩ ?_
  · rw [hs1, ← hsort, List.length_mergeSort]
  · rw [← hsort]
    rw [hw1] at hs2
    revert hs2
    cases s.p with
    | none =>
      rintro ⟨e1, e2⟩
      exact ⟨List.map_eq_nil_iff.1 e1, e2⟩
    | some a =>
      rintro ⟨e1, e2, e3, cs, e4, e5, e6, e7, e8⟩
      refine ⟨e1, e2, by rw [Array.size_push] at e3; omega, cs, e4, e5, by rw [List.length_mergeSort]; exact e6, ?_, e8⟩
      rw [List.length_mergeSort, e7, flat_single]
      rfl
  · rw [hw1] at hu
    exact (Ext.push _ _).trans hu.ext
end Go.Proofs.W
end
section
set_option maxRecDepth 100000
set_option linter.unusedVariables false
namespace Go.Proofs.W
open Go Go.Shal Go.Proofs Go.M
/-- What the program's disk turns. -/
def MP : Obj → Bool
  | .cells _ T _ => memN T [134, 167, 5, 169]
  | .map _ _ => true
  | _ => false
/-- The pointer to a file. -/
def fptr (fb : List Nat) (i : Nat) : Value := .pointer (some ⟨fb.getD i 0, 0, none⟩)
def dirV (fb : List Nat) (l : Dir) : List (Bytes × Value) := l.map fun p => (p.1, fptr fb p.2)
def encG (fb : List Nat) (c : Chg) : List Value := [encS c.fr, encS c.to, if c.to = [] then .pointer none else fptr fb c.f]
theorem encG_len (fb : List Nat) (c : Chg) : (encG fb c).length = 3 := rfl
theorem encG_one (fb : List Nat) (c : Chg) : ∀ v ∈ encG fb c, v.oneCell' = true := by
  intro v hv
  unfold encG at hv
  simp only [List.mem_cons, List.not_mem_nil, or_false] at hv
  rcases hv with rfl | rfl | rfl
  · rfl
  · rfl
  · split <;> rfl
/-- A file in memory. -/
structure FileAt (B : Nat) (h : Heap) (b : Nat) (s : Sl) (f : FileV) : Prop where
  low : B ≤ b
  cell : Shal.Loc b 167 [.slice s.p s.len s.cap, .int .i64 (f.kept : Int)] h
  row : Own B 5 1 encB h s f.data
structure FilesAt (B : Nat) (h : Heap) (fb : List Nat) (fs : List Sl) (files : List FileV) : Prop where
  len : fb.length = files.length
  lenS : fs.length = files.length
  nodup : fb.Nodup
  each : ∀ (i b : Nat) (s : Sl) (f : FileV), fb[i]? = some b → fs[i]? = some s → files[i]? = some f → FileAt B h b s f
  apart : ∀ (i j : Nat) (s t : Sl), fs[i]? = some s → fs[j]? = some t → i ≠ j → ∀ n, s.p.map (·.block) = some n → t.p.map (·.block) ≠ some n
structure PDr (B d : Nat) (A : DiskA) (fb : List Nat) (fs : List Sl) (mn ml : Nat) (ch : Sl) (h : Heap) : Prop where
  low : B ≤ d ∧ B ≤ mn ∧ B ≤ ml
  cell : Shal.Loc d 134 [.int .i64 (A.room : Int), .map (some mn), .map (some ml), .slice ch.p ch.len ch.cap, .bool A.off, .int .i64 (A.fuse : Int)] h
  names : MapIs mn (dirV fb A.now) h
  last : MapIs ml (dirV fb A.dir0) h
  ne : mn ≠ ml
  chgs : Own B 169 3 (encG fb) h ch A.chgs
  files : FilesAt B h fb fs A.files
/-- Block d is the disk A. -/
def PD (B d : Nat) (A : DiskA) (h : Heap) : Prop := ∃ fb fs mn ml ch, PDr B d A fb fs mn ml ch h ∧ OkDisk A
theorem FileAt.frame {B : Nat} {h h' : Heap} {b : Nat} {s : Sl} {f : FileV} (F : FileAt B h b s f) (h1 : ∀ o, h[b]? = some o → h'[b]? = some o) (h2 : ∀ n o, s.p.map (·.block) = some n → h[n]? = some o → h'[n]? = some o) : FileAt B h' b s f :=
  ⟨F.low, h1 _ F.cell, F.row.keep fun n cs hn _ hp => h2 n _ hp hn⟩
theorem FilesAt.frame {B : Nat} {h h' : Heap} {fb : List Nat} {fs : List Sl} {files : List FileV} (F : FilesAt B h fb fs files) (h1 : ∀ b o, b ∈ fb → h[b]? = some o → h'[b]? = some o) (h2 : ∀ s ∈ fs, ∀ n o, s.p.map (·.block) = some n → h[n]? = some o → h'[n]? = some o) : FilesAt B h' fb fs files :=
  ⟨F.len, F.lenS, F.nodup, fun i b s f hb hs hf => (F.each i b s f hb hs hf).frame (fun o => h1 b o (List.mem_of_getElem? hb)) (h2 s (List.mem_of_getElem? hs)), F.apart⟩
theorem FilesAt.ext {B : Nat} {h h' : Heap} {fb : List Nat} {fs : List Sl} {files : List FileV} (F : FilesAt B h fb fs files) (u : Ext h h') : FilesAt B h' fb fs files := F.frame (fun _ _ _ hb => u.at' hb) fun _ _ _ _ _ hn => u.at' hn
theorem PDr.ext {B d : Nat} {A : DiskA} {fb : List Nat} {fs : List Sl} {mn ml : Nat} {ch : Sl} {h h' : Heap} (p : PDr B d A fb fs mn ml ch h) (u : Ext h h') : PDr B d A fb fs mn ml ch h' :=
  ⟨p.low, p.cell.ext u, p.names.ext u, p.last.ext u, p.ne, p.chgs.ext u, p.files.ext u⟩
theorem PD.ext {B d : Nat} {A : DiskA} {h h' : Heap} (p : PD B d A h) (u : Ext h h') : PD B d A h' := let ⟨_, _, _, _, _, q, k⟩ := p; ⟨_, _, _, _, _, q.ext u, k⟩
theorem map_keep {r B : Nat} {ps : List (Bytes × Value)} {M : Obj → Bool} {h h' : Heap} (m : MapIs r ps h) (k : Keep B M h h') (hM : ∀ es c, M (.map es c) = false) : MapIs r ps h' :=
  let ⟨es, c, hb, R⟩ := m
  ⟨es, c, k.at_ _ _ hb (.inr (hM es c)), R⟩
/-- The disk stays as it is, where nothing of its kinds turns. -/
theorem PDr.keep {B d B' : Nat} {A : DiskA} {fb : List Nat} {fs : List Sl} {mn ml : Nat} {ch : Sl} {M : Obj → Bool} {h h' : Heap} (p : PDr B d A fb fs mn ml ch h) (k : Keep B' M h h')
    (h1 : ∀ es c, M (.map es c) = false) (h2 : ∀ T, memN T [134, 167, 5, 169] = true → ∀ cs, M (.cells cs T (0, 0)) = false) : PDr B d A fb fs mn ml ch h' :=
  ⟨p.low, p.cell.keep k (.inr (h2 _ rfl _)), map_keep p.names k h1, map_keep p.last k h1, p.ne, p.chgs.keepM k (h2 169 rfl),
   ⟨p.files.len, p.files.lenS, p.files.nodup, fun i b s f hb hs hf => let F := p.files.each i b s f hb hs hf; ⟨F.low, F.cell.keep k (.inr (h2 _ rfl _)), F.row.keepM k (h2 5 rfl)⟩, p.files.apart⟩⟩
theorem PD.keep {B d B' : Nat} {A : DiskA} {M : Obj → Bool} {h h' : Heap} (p : PD B d A h) (k : Keep B' M h h') (h1 : ∀ es c, M (.map es c) = false) (h2 : ∀ T, memN T [134, 167, 5, 169] = true → ∀ cs, M (.cells cs T (0, 0)) = false) : PD B d A h' :=
  let ⟨_, _, _, _, _, q, ok⟩ := p
  ⟨_, _, _, _, _, q.keep k h1 h2, ok⟩
/-! What is not the disk's own cell. -/
theorem ne_kind {a b : Nat} {h : Heap} {x y : Obj} (hx : h[a]? = some x) (hy : h[b]? = some y) (hne : x ≠ y) : a ≠ b := by
  rintro rfl
  rw [hx] at hy
  exact hne (Option.some.inj hy)
theorem map_ne {r b : Nat} {ps : List (Bytes × Value)} {E : TypeId} {vs : List Value} {h : Heap} (m : MapIs r ps h) (l : Shal.Loc b E vs h) : r ≠ b := by
  obtain ⟨es, c, hb, _⟩ := m
  exact ne_kind hb l (by intro e; cases e)
theorem row_ne_map {α : Type} {B T k r : Nat} {enc : α → List Value} {ps : List (Bytes × Value)} {h : Heap} {s : Sl} {xs : List α} (ho : Own B T k enc h s xs) (m : MapIs r ps h) : s.p.map (·.block) ≠ some r := by
  obtain ⟨es, c, hb, _⟩ := m
  intro he
  have hr := ho.row
  cases hp : s.p with
  | none => rw [hp] at he; cases he
  | some a =>
    rw [hp] at he hr
    obtain ⟨_, _, _, cs, h4, _⟩ := hr
    simp at he
    rw [he, hb] at h4
    cases h4
theorem row_ne_row {α β : Type} {B B' T T' k k' : Nat} {enc : α → List Value} {enc' : β → List Value} {h : Heap} {s t : Sl} {xs : List α} {ys : List β} (ho : Own B T k enc h s xs) (hp : Own B' T' k' enc' h t ys) (hT : T ≠ T') :
    ∀ n, s.p.map (·.block) = some n → t.p.map (·.block) ≠ some n := by
  intro n h1 h2
  have r1 := ho.row
  have r2 := hp.row
  cases p1 : s.p with
  | none => rw [p1] at h1; cases h1
  | some a =>
    cases p2 : t.p with
    | none => rw [p2] at h2; cases h2
    | some b =>
      rw [p1] at h1 r1
      rw [p2] at h2 r2
      obtain ⟨_, _, _, cs, h4, _⟩ := r1
      obtain ⟨_, _, _, cs', h4', _⟩ := r2
      simp at h1 h2
      rw [h1] at h4
      rw [h2, h4] at h4'
      cases h4'
      exact hT rfl
/-- The disk's own cell is set. -/
theorem PDr.set {B d : Nat} {A A' : DiskA} {fb : List Nat} {fs : List Sl} {mn ml : Nat} {ch : Sl} {h h' : Heap} (p : PDr B d A fb fs mn ml ch h) (o : Only d h h')
    (l : Shal.Loc d 134 [.int .i64 (A'.room : Int), .map (some mn), .map (some ml), .slice ch.p ch.len ch.cap, .bool A'.off, .int .i64 (A'.fuse : Int)] h') (h1 : A'.dir0 = A.dir0) (h2 : A'.chgs = A.chgs) (h3 : A'.files = A.files) : PDr B d A' fb fs mn ml ch h' := by
  have hn : A'.now = A.now := by unfold DiskA.now; rw [h1, h2]
  refine ⟨p.low, l, ?_, ?_, p.ne, ?_, ?_⟩
  · rw [hn]; exact p.names.only o (map_ne p.names p.cell)
  · rw [h1]; exact p.last.only o (map_ne p.last p.cell)
  · rw [h2]; exact p.chgs.only o (p.chgs.rowne p.cell (by decide))
  · rw [h3]
    refine p.files.frame (fun b x hb hx => ?_) fun s hs n x hn hx => ?_
    · rw [o.2 b]
      · exact hx
      · obtain ⟨i, hi⟩ := List.getElem?_of_mem hb
        have hlt : i < fb.length := (List.getElem?_eq_some_iff.1 hi).1
        have F := p.files.each i b (fs[i]'(by have := p.files.len; have := p.files.lenS; omega)) (A.files[i]'(by have := p.files.len; omega)) hi (List.getElem?_eq_getElem _) (List.getElem?_eq_getElem _)
        exact ne_kind F.cell p.cell (by intro e; cases e)
    · rw [o.2 n]
      · exact hx
      · obtain ⟨i, hi⟩ := List.getElem?_of_mem hs
        have hlt : i < fs.length := (List.getElem?_eq_some_iff.1 hi).1
        have F := p.files.each i (fb[i]'(by have := p.files.len; have := p.files.lenS; omega)) s (A.files[i]'(by have := p.files.lenS; omega)) (List.getElem?_eq_getElem _) hi (List.getElem?_eq_getElem _)
        rintro rfl
        exact F.row.rowne p.cell (by decide) hn
theorem PDr.keepSet {B d : Nat} {A : DiskA} {fb : List Nat} {fs : List Sl} {mn ml : Nat} {ch : Sl} {h h' : Heap} (p : PDr B d A fb fs mn ml ch h) (o : Only d h h') : Keep B MP h h' := o.keep p.low.1 p.cell rfl
end Go.Proofs.W
end
section
set_option maxRecDepth 100000
set_option linter.unusedVariables false
namespace Go.Proofs.W
open Go Go.Shal Go.Proofs Go.M
section
variable {B d : Nat} {A : DiskA} {fb : List Nat} {fs : List Sl} {mn ml : Nat} {ch : Sl} {h : Heap}
theorem none_spec {Q : Bool → PP} (p : PDr B d A fb fs mn ml ch h) (hQ : Q false h) : disk_Disk_none.C (some ⟨d, 0, none⟩) Q h := by
  apply disk_Disk_none.ok
  unfold disk_Disk_none.F
  refine ⟨.inr rfl, ?_⟩
  rw [ifB_of_false (by simp), nilP_some]
  refine ld_loc (s := .map) (x := some mn) p.cell rfl ⟨.inr rfl, ?_⟩
  simpa using hQ
theorem power_spec {Q : Int → PP} (p : PDr B d A fb fs mn ml ch h) (hQ : Q (if A.off then 7 else 0) h) : disk_Disk_power.C (some ⟨d, 0, none⟩) Q h := by
  apply disk_Disk_power.ok
  unfold disk_Disk_power.F
  refine none_spec p ?_
  rw [ifB_of_false rfl, nilP_some]
  refine ld_loc (s := .bool) (x := A.off) p.cell rfl ?_
  refine ifB_of (fun hb => ?_) (fun hb => ?_)
  · rw [hb, if_pos rfl] at hQ; exact hQ
  · rw [hb, if_neg (by decide)] at hQ; exact hQ
theorem burns_spec {Q : Int → PP} (p : PDr B d A fb fs mn ml ch h) (hfu : A.fuse < 9223372036854775808) (hon : A.off = false) (hQ : ∀ h', PDr B d A.burn fb fs mn ml ch h' → Only d h h' → Q (if A.burn.off then 7 else 0) h') : disk_Disk_burns.C (some ⟨d, 0, none⟩) Q h := by
  apply disk_Disk_burns.ok
  unfold disk_Disk_burns.F
  refine join_u (fun h' => PDr B d A.burn fb fs mn ml ch h' ∧ Only d h h') ?_ ?_
  · rw [nilP_some]
    refine ld_loc (s := .int .i64) (x := (A.fuse : Int)) p.cell rfl ?_
    refine ifB_of (fun hb => ?_) (fun hb => ?_)
    · have hpos : 0 < A.fuse := by have := of_decide_eq_true hb; omega
      rw [nilP_some]
      refine ld_loc (s := .int .i64) (x := (A.fuse : Int)) p.cell rfl ?_
      rw [nilP_some, wi (by omega) (by omega)]
      refine st_loc (s := .int .i64) p.cell (by simp) (by decide) fun h1 l1 o1 => ?_
      rw [nilP_some]
      refine ld_loc (s := .int .i64) (x := (A.fuse : Int) - 1) l1 (by simp) ?_
      rw [nilP_some]
      refine st_loc (s := .bool) l1 (by simp) (by decide) fun h2 l2 o2 => ?_
      have o := o1.trans o2
      refine ⟨p.set o ?_ ?_ ?_ ?_, o⟩
      · have e : A.burn = { A with fuse := A.fuse - 1, off := decide (A.fuse = 1) } := by unfold DiskA.burn; rw [if_neg (by omega)]
        rw [e]
        have e2 : (((A.fuse : Int) - 1) == (0 : Int)) = decide (A.fuse = 1) := by
          rw [Bool.eq_iff_iff]
          simp only [beq_iff_eq, decide_eq_true_eq]
          omega
        rw [e2] at l2
        have e3 : (A.fuse : Int) - 1 = ((A.fuse - 1 : Nat) : Int) := by omega
        rw [e3] at l2
        exact l2
      · unfold DiskA.burn; split <;> rfl
      · unfold DiskA.burn; split <;> rfl
      · unfold DiskA.burn; split <;> rfl
    · have h0 : A.fuse = 0 := by have := of_decide_eq_false hb; omega
      have e : A.burn = A := by unfold DiskA.burn; rw [if_pos h0]
      rw [e]
      exact ⟨p, Only.refl _ _⟩
  · rintro h1 ⟨p1, k1⟩
    exact power_spec p1 (hQ h1 p1 k1)
theorem dirV_keys (fb : List Nat) (l : Dir) : (dirV fb l).map (·.1) = l.map (·.1) := by unfold dirV; rw [List.map_map]; rfl
theorem file_spec {name : Bytes} {Q : Option Addr → Int → PP} (p : PDr B d A fb fs mn ml ch h) (ok : OkDisk A)
    (hQ : if A.off then Q none 7 h else match findD A.now name with
      | none => Q none 4 h
      | some k => Q (some ⟨fb.getD k 0, 0, none⟩) 0 h) : disk_Disk_file.C (some ⟨d, 0, none⟩) name Q h := by
  apply disk_Disk_file.ok
  unfold disk_Disk_file.F
  refine power_spec p ?_
  cases hoff : A.off with
  | true =>
    rw [hoff, if_pos rfl] at hQ
    rw [if_pos rfl, ifB_of_true (by rfl)]
    exact hQ
  | false =>
    rw [hoff, if_neg (by decide)] at hQ
    rw [if_neg (by decide), ifB_of_false (by rfl), nilP_some]
    refine ld_loc (s := .map) (x := some mn) p.cell rfl ?_
    cases hf : findD A.now name with
    | none =>
      rw [hf] at hQ
      refine look_none p.names ?_ ?_
      · rw [dirV_keys]
        intro hm
        obtain ⟨q, hq, rfl⟩ := List.mem_map.1 hm
        exact findD_none hf q hq rfl
      · rw [ifB_of_true (by rfl)]
        exact hQ
    | some k =>
      rw [hf] at hQ
      refine look_some (x := some ⟨fb.getD k 0, 0, none⟩) p.names ?_ ?_
      · exact List.mem_map.2 ⟨(name, k), findD_some hf, rfl⟩
      · rw [ifB_of_false (by rfl)]
        exact hQ
theorem right1_spec {c : UInt8} {Q : Bool → PP} (hQ : Q (!okC c) h) : disk_right_1.C (c.toNat : Int) Q h := by
  apply disk_right_1.ok
  unfold disk_right_1.F
  have hb : ∀ (b : Bool), b = !okC c → Q b h := fun b hb => hb ▸ hQ
  have key : okC c = true ↔ (97 ≤ c.toNat ∧ c.toNat ≤ 122) ∨ (48 ≤ c.toNat ∧ c.toNat ≤ 57) ∨ c.toNat = 46 ∨ c.toNat = 45 := by
    unfold okC
    simp only [Bool.or_eq_true, Bool.and_eq_true, decide_eq_true_eq, or_assoc]
  have tt : ∀ {b : Bool}, b = true → (¬ (97 ≤ c.toNat ∧ c.toNat ≤ 122) ∧ ¬ (48 ≤ c.toNat ∧ c.toNat ≤ 57) ∧ c.toNat ≠ 46 ∧ c.toNat ≠ 45) → b = !okC c := by
    intro b hb hh
    rw [hb]
    cases ho : okC c with
    | false => rfl
    | true => have := key.1 ho; omega
  have ff : ∀ {b : Bool}, b = false → ((97 ≤ c.toNat ∧ c.toNat ≤ 122) ∨ (48 ≤ c.toNat ∧ c.toNat ≤ 57) ∨ c.toNat = 46 ∨ c.toNat = 45) → b = !okC c := by
    intro b hb hh
    rw [hb, key.2 hh]
    rfl
  have tail : (¬ (97 ≤ c.toNat ∧ c.toNat ≤ 122) ∧ ¬ (48 ≤ c.toNat ∧ c.toNat ≤ 57)) → (ifB ((c.toNat : Int) != (46 : Int)) (Q ((c.toNat : Int) != (45 : Int))) (Q false)) h := by
    intro hh
    refine ifB_of (fun h1 => ?_) (fun h1 => ?_)
    · have h46 : c.toNat ≠ 46 := by intro he; rw [he] at h1; simp at h1
      refine hb _ ?_
      by_cases h45 : c.toNat = 45
      · exact ff (by rw [h45]; rfl) (by omega)
      · exact tt (by simp; omega) ⟨hh.1, hh.2, h46, h45⟩
    · have h46 : c.toNat = 46 := by have : (c.toNat : Int) = 46 := by simpa using h1
                                    omega
      exact hb _ (ff rfl (by omega))
  have mid : ¬ (97 ≤ c.toNat ∧ c.toNat ≤ 122) → (ifB (decide ((c.toNat : Int) < (48 : Int))) (ifB ((c.toNat : Int) != (46 : Int)) (Q ((c.toNat : Int) != (45 : Int))) (Q false)) (ifB (decide ((c.toNat : Int) > (57 : Int))) (ifB ((c.toNat : Int) != (46 : Int)) (Q ((c.toNat : Int) != (45 : Int))) (Q false)) (Q false))) h := by
    intro hh
    refine ifB_of (fun h1 => ?_) (fun h1 => ?_)
    · have := of_decide_eq_true h1
      exact tail ⟨hh, by omega⟩
    · have h48 := of_decide_eq_false h1
      refine ifB_of (fun h1 => ?_) (fun h1 => ?_)
      · have := of_decide_eq_true h1
        exact tail ⟨hh, by omega⟩
      · have := of_decide_eq_false h1
        exact hb _ (ff rfl (by omega))
  refine ifB_of (fun h1 => ?_) (fun h1 => ?_)
  · have := of_decide_eq_true h1
    exact mid (by omega)
  · have h97 := of_decide_eq_false h1
    refine ifB_of (fun h1 => ?_) (fun h1 => ?_)
    · have := of_decide_eq_true h1
      exact mid (by omega)
    · have := of_decide_eq_false h1
      exact hb _ (ff rfl (by omega))
theorem right_spec {name : Bytes} {Q : Bool → PP} (hQ : ∀ h', Ext h h' → Q (rightB name) h') : disk_right.C name Q h := by
  apply disk_right.ok
  unfold disk_right.F
  refine ifB_of (fun hc => ?_) (fun hc => ?_)
  · have hne : name ≠ [] := by simpa using hc
    have h1 : 1 ≤ name.length := by cases name <;> simp at hne ⊢
    refine ifB_of (fun hc => ?_) (fun hc => ?_)
    · have h24 : name.length ≤ 24 := by have := of_decide_eq_true hc; omega
      refine ofStr_sees fun p c h2 u2 s2 => ?_
      apply slices_ContainsFunc_byte_byte.ok
      unfold slices_ContainsFunc_byte_byte.F
      apply slices_IndexFunc_byte_byte.ok
      unfold slices_IndexFunc_byte_byte.F
      refine ⟨fun _ i h' => ∃ k : Nat, k ≤ name.length ∧ i = (k : Int) ∧ (name.take k).all okC = true ∧ h' = h2, fun _ i _ => name.length - i.toNat, ⟨0, by omega, rfl, by simp, rfl⟩, ?_⟩
      rintro ⟨_, i, _⟩ h3 ⟨k, hk, hi, hall, rfl⟩
      dsimp only at hi hall
      subst hi
      refine ifB_of (fun hc => ?_) (fun hc => ?_)
      · have hk1 : k < name.length := by have := of_decide_eq_true hc; dsimp only at this; omega
        dsimp only
        refine Sees.idx1 (enc := fun (b : UInt8) => Value.int .u8 (b.toNat : Int)) s2 rfl (List.getElem?_eq_getElem hk1) fun a ha => ?_
        refine ld_of (s := .int .u8) ha ?_
        refine ⟨169, #[], #[], Tryz.f169, rfl, Tryz.func169, by kernel_rfl, ?_⟩
        refine right1_spec (c := name[k]) ?_
        refine ifB_of (fun hb => ?_) (fun hb => ?_)
        · have hbad : okC name[k] = false := by simpa using hb
          have hr : rightB name = false := by
            unfold rightB
            have : name.all okC = false := by
              rw [List.all_eq_false]
              exact ⟨_, List.getElem_mem hk1, by simpa using hbad⟩
            rw [this]
            simp
          have := hQ h3 u2
          rw [hr] at this
          rw [show decide ((k : Int) ≥ (0 : Int)) = true by simp]
          exact this
        · have hgood : okC name[k] = true := by simpa using hb
          rw [wi (by omega) (by omega)]
          refine ⟨⟨k + 1, by omega, rfl, ?_, rfl⟩, by dsimp only [unc]; omega⟩
          rw [List.take_succ_eq_append_getElem hk1, List.all_append, hall]
          simpa using hgood
      · have hk1 : k = name.length := by have := of_decide_eq_false hc; dsimp only at this; omega
        subst hk1
        rw [List.take_length] at hall
        have hr : rightB name = true := by
          unfold rightB
          rw [hall]
          simp
          omega
        have := hQ h3 u2
        rw [hr] at this
        exact this
    · have h24 : ¬ name.length ≤ 24 := by have := of_decide_eq_false hc; omega
      have := hQ h (Ext.refl _)
      rw [show rightB name = false by unfold rightB; rw [show decide (name.length ≤ 24) = false by simpa using h24]; simp] at this
      exact this
  · have hne : name = [] := by simpa using hc
    have := hQ h (Ext.refl _)
    rw [hne] at this
    exact this
end
end Go.Proofs.W
end
section
set_option maxRecDepth 100000
set_option linter.unusedVariables false
namespace Go.Proofs.W
open Go Go.Shal Go.Proofs Go.M
/-- Nothing but block r has turned; there may be more blocks. -/
abbrev Aside (r : Nat) (h h' : Heap) : Prop := But ⟨some ⟨r, 0, none⟩, 0, 0⟩ h h'
theorem Aside.of {r : Nat} {h h' : Heap} (h1 : h.size ≤ h'.size) (h2 : ∀ n o, n ≠ r → h[n]? = some o → h'[n]? = some o) : Aside r h h' :=
  ⟨h1, fun b o hb hne => h2 b o (fun he => hne (by rw [he]; rfl)) hb⟩
theorem Aside.at' {r : Nat} {h h' : Heap} (a : Aside r h h') {n : Nat} {o : Obj} (hne : n ≠ r) (hn : h[n]? = some o) : h'[n]? = some o := a.2 n o hn (fun he => hne (by simp at he; exact he.symm))
theorem Aside.trans {r : Nat} {a b c : Heap} (h : Aside r a b) (k : Aside r b c) : Aside r a c := ⟨Nat.le_trans h.1 k.1, fun n o hn hne => k.2 n o (h.2 n o hn hne) hne⟩
theorem ext_aside {h h' : Heap} (u : Ext h h') (r : Nat) : Aside r h h' := ⟨u.size, fun _ _ hb _ => u.at' hb⟩
theorem _root_.Go.Shal.Only.aside {r : Nat} {h h' : Heap} (o : Only r h h') : Aside r h h' := Aside.of (Nat.le_of_eq o.1.symm) fun n x hne hx => by rw [o.2 n hne]; exact hx
theorem Aside.keep {r B : Nat} {M : Obj → Bool} {h h' : Heap} (a : Aside r h h') (hB : B ≤ r) {x : Obj} (hx : h[r]? = some x) (hM : M x = true) : Keep B M h h' :=
  ⟨a.1, fun n o hn hm => by
    by_cases he : n = r
    · subst he
      rw [hx] at hn
      cases hn
      rcases hm with hm | hm
      · omega
      · rw [hM] at hm; cases hm
    · exact a.at' he hn⟩
theorem sans_dirV (fb : List Nat) (l : Dir) (k : Bytes) : sans k (dirV fb l) = dirV fb (without l k) := by
  unfold sans dirV without
  rw [List.filter_map]
  rfl
theorem does_spec {r : Nat} {fb : List Nat} {l : Dir} {c : Chg} {p : Option Addr} {h : Heap} {Q : PP} (m : MapIs r (dirV fb l) h) (hp : c.to ≠ [] → p = some ⟨fb.getD c.f 0, 0, none⟩)
    (hQ : ∀ h', MapIs r (dirV fb (applyC l c)) h' → Aside r h h' → Q h') : disk_change_does.C c.fr c.to p (some r) Q h := by
  apply disk_change_does.ok
  unfold disk_change_does.F
  refine newP_loc fun h1 u1 z1 l1 => ?_
  have hne : r ≠ h.size := by have := m.lt; omega
  refine join_u (fun h' => MapIs r (dirV fb (if c.fr = [] then l else without l c.fr)) h' ∧ Only r h1 h') ?_ ?_
  · refine ld_loc (s := .str) (x := c.fr) l1 rfl ?_
    refine ifB_of (fun hb => ?_) (fun hb => ?_)
    · have hf : c.fr ≠ [] := by simpa using hb
      refine ld_loc (s := .str) (x := c.fr) l1 rfl ?_
      refine del_of (m.ext u1) fun h2 m2 o2 => ⟨?_, o2⟩
      rw [if_neg hf, ← sans_dirV]
      exact m2
    · have hf : c.fr = [] := by simpa using hb
      exact ⟨by rw [if_pos hf]; exact m.ext u1, Only.refl _ _⟩
  · rintro h2 ⟨m2, o2⟩
    have l2 := l1.only o2 (Ne.symm hne)
    have a2 : Aside r h h2 := (ext_aside u1 r).trans o2.aside
    refine ld_loc (s := .str) (x := c.to) l2 rfl ?_
    refine ifB_of (fun hb => ?_) (fun hb => ?_)
    · have ht : c.to ≠ [] := by simpa using hb
      refine ld_loc (s := .str) (x := c.to) l2 rfl ?_
      refine ld_loc (s := .ptr) (x := p) l2 rfl ?_
      refine upd_of m2 fun h3 m3 o3 => hQ h3 ?_ (a2.trans o3.aside)
      unfold applyC
      rw [if_neg ht]
      refine m3.of_perm ?_
      rw [sans_dirV]
      refine List.Perm.symm ?_
      have := (insD_perm (c.to, c.f) (without (if c.fr = [] then l else without l c.fr) c.to)).map fun q => (q.1, fptr fb q.2)
      refine this.trans ?_
      rw [List.map_cons, hp ht]
      exact List.Perm.refl _
    · have ht : c.to = [] := by simpa using hb
      refine hQ h2 ?_ a2
      unfold applyC
      rw [if_pos ht]
      exact m2
section
variable {B d : Nat} {A : DiskA} {fb : List Nat} {fs : List Sl} {mn ml : Nat} {ch : Sl} {h : Heap}
theorem PDr.block_of (p : PDr B d A fb fs mn ml ch h) {b : Nat} (hb : b ∈ fb) : ∃ s f, FileAt B h b s f ∧ s ∈ fs ∧ f ∈ A.files := by
  obtain ⟨i, hi⟩ := List.getElem?_of_mem hb
  have hlt : i < fb.length := (List.getElem?_eq_some_iff.1 hi).1
  have h1 := p.files.len
  have h2 := p.files.lenS
  exact ⟨fs[i], A.files[i], p.files.each i b _ _ hi (List.getElem?_eq_getElem (by omega)) (List.getElem?_eq_getElem (by omega)), List.getElem_mem _, List.getElem_mem _⟩
theorem PDr.slice_of (p : PDr B d A fb fs mn ml ch h) {s : Sl} (hs : s ∈ fs) : ∃ b f, FileAt B h b s f ∧ b ∈ fb ∧ f ∈ A.files := by
  obtain ⟨i, hi⟩ := List.getElem?_of_mem hs
  have hlt : i < fs.length := (List.getElem?_eq_some_iff.1 hi).1
  have h1 := p.files.len
  have h2 := p.files.lenS
  exact ⟨fb[i], A.files[i], p.files.each i _ s _ (List.getElem?_eq_getElem (by omega)) hi (List.getElem?_eq_getElem (by omega)), List.getElem_mem _, List.getElem_mem _⟩
/-- The files stay, where what turns is no row of a file's kinds. -/
theorem PDr.files_aside (p : PDr B d A fb fs mn ml ch h) {r : Nat} {h' : Heap} (a : Aside r h h') (h1 : ∀ cs, h[r]? ≠ some (.cells cs 167 (0, 0))) (h2 : ∀ cs, h[r]? ≠ some (.cells cs 5 (0, 0))) : FilesAt B h' fb fs A.files := by
  refine p.files.frame (fun b o hb ho => a.at' ?_ ho) fun s hs n o hn ho => a.at' ?_ ho
  · obtain ⟨s, f, F, _⟩ := p.block_of hb
    rintro rfl
    exact h1 _ F.cell
  · obtain ⟨b, f, F, _⟩ := p.slice_of hs
    rintro rfl
    have hr := F.row.row
    cases hp : s.p with
    | none => rw [hp] at hn; cases hn
    | some x =>
      rw [hp] at hr hn
      obtain ⟨_, _, _, cs, h4, _⟩ := hr
      simp at hn
      rw [hn] at h4
      exact h2 _ h4
theorem changed_spec {c : Chg} {p : Option Addr} {Q : Int → PP} (P : PDr B d A fb fs mn ml ch h) (ok : OkDisk A) (hB : B ≤ h.size) (hon : A.off = false) (hp : p = if c.to = [] then none else some ⟨fb.getD c.f 0, 0, none⟩)
    (hfail : A.burn.off = true → ∀ h', PDr B d A.burn fb fs mn ml ch h' → Keep B MP h h' → Q 7 h')
    (hok : A.burn.off = false → ∀ ch' h', PDr B d (A.burn.chg c) fb fs mn ml ch' h' → Keep B MP h h' → Q 0 h') : disk_Disk_changed.C (some ⟨d, 0, none⟩) c.fr c.to p Q h := by
  apply disk_Disk_changed.ok
  unfold disk_Disk_changed.F
  refine newP_loc fun h1 u1 z1 l1 => ?_
  have P1 := P.ext u1
  have k01 : Keep B MP h h1 := u1.keep B MP
  refine burns_spec P1 ok.fuse hon fun h2 P2 o2 => ?_
  have hd : h.size ≠ d := by have := P.cell.lt; omega
  have l2 := l1.only o2 hd
  have k02 : Keep B MP h h2 := k01.trans (P1.keepSet o2)
  cases hoff : A.burn.off with
  | true =>
    rw [if_pos rfl, ifB_of_true (by rfl)]
    exact hfail hoff h2 P2 k02
  | false =>
    rw [if_neg (by decide), ifB_of_false (by rfl)]
    refine draw_ext ?_
    refine ldsG_ext (l := [.str, .str, .ptr]) (c.fr, c.to, p, ()) (fun n v hv => l2.cell hv) ?_
    dsimp only [unc]
    rw [nilP_some]
    refine ldG_ext (s := .map) (x := some mn) (P2.cell.cell (n := 1) rfl) ?_
    refine does_spec P2.names (fun ht => by rw [hp, if_neg ht]) fun h3 m3 a3 => ?_
    have hmn : mn ≠ d := map_ne P2.names P2.cell
    have hsm : mn ≠ h.size := map_ne P2.names l2
    have l3 : Shal.Loc h.size 169 [encS c.fr, encS c.to, .pointer p] h3 := a3.at' (Ne.symm hsm) l2
    have cell3 : Shal.Loc d 134 [.int .i64 (A.burn.room : Int), .map (some mn), .map (some ml), .slice ch.p ch.len ch.cap, .bool A.burn.off, .int .i64 (A.burn.fuse : Int)] h3 := a3.at' (Ne.symm hmn) P2.cell
    obtain ⟨es, cc, hmb, _⟩ := id P2.names
    have k03 : Keep B MP h h3 := k02.trans (a3.keep P2.low.2.1 hmb rfl)
    have ch3 : Own B 169 3 (encG fb) h3 ch A.burn.chgs := P2.chgs.keep fun n cs hn _ hpn => a3.at' (by rintro rfl; exact row_ne_map P2.chgs P2.names hpn) hn
    have last3 : MapIs ml (dirV fb A.burn.dir0) h3 := P2.last.at_ fun o ho => a3.at' (Ne.symm P2.ne) ho
    have files3 : FilesAt B h3 fb fs A.burn.files := P2.files_aside a3 (fun cs he => by rw [hmb] at he; cases he) (fun cs he => by rw [hmb] at he; cases he)
    refine draw_with (S := fun h' => Shal.Loc d 134 [.int .i64 (A.burn.room : Int), .map (some mn), .map (some ml), .slice ch.p ch.len ch.cap, .bool A.burn.off, .int .i64 (A.burn.fuse : Int)] h' ∧ Shal.Loc h.size 169 [encS c.fr, encS c.to, .pointer p] h') ⟨cell3, l3⟩ ?_
    rw [nilP_some]
    refine ldG_with (s := .slice) (x := ch) (fun h' hh => hh.1.cell (n := 3) rfl) ?_
    refine ldsG_at (l := [.str, .str, .ptr]) (c.fr, c.to, p, ()) (fun n v hv h' hh => hh.2.cell hv) ?_
    dsimp only [unc]
    have hz3 := k03.size
    have e3 : ([.string (bs c.fr), .string (bs c.to), .pointer p] : List Value) = encG fb c := by
      unfold encG fptr
      rw [hp]
      split <;> rfl
    refine newP_one (enc := encG fb) (x := c) e3 rfl fun h4 _ u4 s4 => with_of ⟨cell3.ext u4, l3.ext u4⟩ ?_
    have hbn : A.burn.chgs = A.chgs := by unfold DiskA.burn; split <;> rfl
    have hz4 := u4.size
    have hnc := ok.nchgs
    refine own_append (ys := [c]) (encG_len fb) (encG_one fb) rfl (ch3.ext u4) (by omega) s4.at_ rfl (by rw [hbn]; simp; omega) fun ch' h5 o5 z5 f5 g5 => ?_
    have hrow : ∀ n, ch.p.map (·.block) = some n → n < h.size := by
      intro n hn
      have hr := P.chgs.row
      cases hcp : ch.p with
      | none => rw [hcp] at hn; cases hn
      | some x =>
        rw [hcp] at hr hn
        obtain ⟨_, _, _, cs, h4', _⟩ := hr
        simp at hn
        rw [← hn]
        exact lt_of_some h4'
    have bt : But ch h4 h5 := ⟨z5, fun n o hn hne => f5 n o hn (.inl hne)⟩
    have hdne : ch.p.map (·.block) ≠ some d := P2.chgs.rowne P2.cell (by decide)
    have cell5 := (cell3.ext u4).but bt hdne
    have l5 := (l3.ext u4).but bt (by intro he; have := hrow _ he; omega)
    refine with_of ⟨cell5, l5⟩ ?_
    rw [nilP_some]
    refine st_loc (s := .slice) cell5 (by simp) (by decide) fun h6 l6 o6 => ?_
    have hne' : ch'.p.map (·.block) ≠ some d := by
      intro he
      cases hcp : ch'.p with
      | none => rw [hcp] at he; cases he
      | some x =>
        rw [hcp] at he
        simp at he
        rcases g5 x hcp with hh | hh
        · rw [he] at hh; exact hdne hh
        · have := (cell3.ext u4).lt; omega
    have k06 : Keep B MP h h6 := ((k03.trans (u4.keep B MP)).trans ?_).trans (o6.keep P.low.1 cell5 rfl)
    · refine hok hoff ch' h6 ⟨P.low, ?_, ?_, ?_, P.ne, ?_, ?_⟩ k06
      · exact l6
      · have hnow : (A.burn.chg c).now = applyC A.burn.now c := by unfold DiskA.now DiskA.chg; simp
        rw [hnow]
        have hne1 : ch.p.map (·.block) ≠ some mn := row_ne_map P2.chgs P2.names
        exact (((m3.ext u4).but bt hne1).only o6 hmn)
      · have hne1 : ch.p.map (·.block) ≠ some ml := row_ne_map P2.chgs P2.last
        exact (((last3.ext u4).but bt hne1).only o6 (map_ne P2.last P2.cell))
      · exact o5.only o6 hne'
      · refine ((files3.ext u4).frame (fun b o hb ho => bt.2 b o ho ?_) fun s hs n o hn ho => bt.2 n o ho ?_).frame (fun b o hb ho => ?_) fun s hs n o hn ho => ?_
        · intro he
          obtain ⟨s, f, F, _⟩ := P2.block_of hb
          exact P2.chgs.rowne F.cell (by decide) he
        · intro he
          obtain ⟨b, f, F, _⟩ := P2.slice_of hs
          exact row_ne_row P2.chgs F.row (by decide) n he hn
        · rw [o6.2 b]
          · exact ho
          · obtain ⟨s, f, F, _⟩ := P2.block_of hb
            exact ne_kind F.cell P2.cell (by intro e; cases e)
        · rw [o6.2 n]
          · exact ho
          · obtain ⟨b, f, F, _⟩ := P2.slice_of hs
            rintro rfl
            exact F.row.rowne P2.cell (by decide) hn
    · exact But.keepO (ch3.ext u4) bt (fun _ => rfl)
end
end Go.Proofs.W
end
