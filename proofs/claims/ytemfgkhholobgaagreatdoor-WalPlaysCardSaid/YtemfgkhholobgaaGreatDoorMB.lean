/- Plain laws of layer 5: the disk. Plain laws of layer 5: the disk stays one. Plain laws of layer 5: a crash. Plain laws of layer 6: batches. Plain laws of layer 7: logs. Plain laws of layers 5 and 7: acts; the chapter's own example. -/
import Derived.Test.YtemfgkhholobgaaGreatDoorMA
section
set_option linter.unusedVariables false
namespace Go.M
structure FileV where
  data : List UInt8
  kept : Nat
abbrev Dir := List (List UInt8 × Nat)
structure Chg where
  fr : List UInt8
  to : List UInt8
  f : Nat
def without (l : Dir) (k : List UInt8) : Dir := l.filter fun p => decide (p.1 ≠ k)
def insD (x : List UInt8 × Nat) : Dir → Dir
  | [] => [x]
  | y :: r => if x.1 < y.1 then x :: y :: r else y :: insD x r
def applyC (l : Dir) (c : Chg) : Dir :=
  if c.to = [] then (if c.fr = [] then l else without l c.fr)
  else insD (c.to, c.f) (without (if c.fr = [] then l else without l c.fr) c.to)
structure DiskA where
  room : Nat
  files : List FileV
  dir0 : Dir
  chgs : List Chg
  off : Bool
  fuse : Nat
def DiskA.dirAt (A : DiskA) (i : Nat) : Dir := (A.chgs.take i).foldl applyC A.dir0
def DiskA.now (A : DiskA) : Dir := A.chgs.foldl applyC A.dir0
def findD (l : Dir) (k : List UInt8) : Option Nat := (l.find? fun p => decide (p.1 = k)).map (·.2)
def fileD (files : List FileV) (i : Nat) : FileV := files.getD i ⟨[], 0⟩
def usedD (files : List FileV) (l : Dir) : Nat := (l.map fun p => (fileD files p.2).data.length).sum
def DiskA.used (A : DiskA) : Nat := usedD A.files A.now
def okC (c : UInt8) : Bool := (decide (97 ≤ c.toNat) && decide (c.toNat ≤ 122)) || (decide (48 ≤ c.toNat) && decide (c.toNat ≤ 57)) || decide (c.toNat = 46) || decide (c.toNat = 45)
def rightB (s : List UInt8) : Bool := decide (1 ≤ s.length) && decide (s.length ≤ 24) && s.all okC
/-- A directory: rising names that may be, files that there are. -/
structure OkDir (n : Nat) (l : Dir) : Prop where
  rising : l.Pairwise fun p q => p.1 < q.1
  right : ∀ p ∈ l, rightB p.1 = true
  file : ∀ p ∈ l, p.2 < n
structure OkDisk (A : DiskA) : Prop where
  dir0 : OkDir A.files.length A.dir0
  chgs : ∀ c ∈ A.chgs, c.to = [] ∨ (rightB c.to = true ∧ c.f < A.files.length)
  kept : ∀ f ∈ A.files, f.kept ≤ f.data.length
  size : ∀ f ∈ A.files, f.data.length ≤ 1048576
  room : A.room ≤ 1048576
  fuse : A.fuse < 9223372036854775808
  nfiles : A.files.length ≤ 1000000000
  nchgs : A.chgs.length ≤ 1000000000
theorem lt_of_not {a b : List UInt8} (h : ¬ a < b) (hne : a ≠ b) : b < a := by
  refine Decidable.byContradiction fun h2 => hne ?_
  exact List.le_antisymm (List.not_lt.1 h2) (List.not_lt.1 h)
theorem without_mem {l : Dir} {k : List UInt8} {p : List UInt8 × Nat} : p ∈ without l k ↔ p ∈ l ∧ p.1 ≠ k := by simp [without]
theorem insD_mem {x : List UInt8 × Nat} : ∀ {l : Dir} {p : List UInt8 × Nat}, p ∈ insD x l ↔ p = x ∨ p ∈ l
  | [], p => by simp [insD]
  | y :: r, p => by
    unfold insD
    split
    · simp
    · rw [List.mem_cons, insD_mem (l := r), List.mem_cons]
      constructor
      · rintro (h | h | h) <;> simp [h]
      · rintro (h | h | h) <;> simp [h]
theorem insD_perm (x : List UInt8 × Nat) : ∀ l : Dir, (insD x l).Perm (x :: l)
  | [] => List.Perm.refl _
  | y :: r => by
    unfold insD
    split
    · exact List.Perm.refl _
    · exact (List.Perm.cons y (insD_perm x r)).trans (List.Perm.swap x y r)
theorem without_len (l : Dir) (k : List UInt8) : (without l k).length ≤ l.length := List.length_filter_le _ _
theorem OkDir.without {n : Nat} {l : Dir} (h : OkDir n l) (k : List UInt8) : OkDir n (without l k) :=
  ⟨h.rising.sublist (List.filter_sublist), fun p hp => h.right p (without_mem.1 hp).1, fun p hp => h.file p (without_mem.1 hp).1⟩
theorem insD_rising {x : List UInt8 × Nat} : ∀ {l : Dir}, l.Pairwise (fun p q => p.1 < q.1) → (∀ p ∈ l, p.1 ≠ x.1) → (insD x l).Pairwise fun p q => p.1 < q.1
  | [], _, _ => by simp [insD]
  | y :: r, h, hx => by
    rw [List.pairwise_cons] at h
    unfold insD
    split
    · rename_i hlt
      rw [List.pairwise_cons, List.pairwise_cons]
      refine ⟨fun p hp => ?_, h⟩
      rcases List.mem_cons.1 hp with rfl | hp
      · exact hlt
      · exact List.lt_trans hlt (h.1 p hp)
    · rename_i hlt
      rw [List.pairwise_cons]
      refine ⟨fun p hp => ?_, insD_rising h.2 fun p hp => hx p (List.mem_cons_of_mem _ hp)⟩
      rcases insD_mem.1 hp with rfl | hp
      · exact lt_of_not hlt (fun he => hx y (by simp) he.symm)
      · exact h.1 p hp
theorem OkDir.ins {n : Nat} {l : Dir} (h : OkDir n l) {x : List UInt8 × Nat} (hx : ∀ p ∈ l, p.1 ≠ x.1) (h1 : rightB x.1 = true) (h2 : x.2 < n) : OkDir n (insD x l) :=
  ⟨insD_rising h.rising hx, fun p hp => by rcases insD_mem.1 hp with rfl | hp
                                           · exact h1
                                           · exact h.right p hp, fun p hp => by rcases insD_mem.1 hp with rfl | hp
                                                                                · exact h2
                                                                                · exact h.file p hp⟩
theorem OkDir.apply {n : Nat} {l : Dir} (h : OkDir n l) {c : Chg} (hc : c.to = [] ∨ (rightB c.to = true ∧ c.f < n)) : OkDir n (applyC l c) := by
  unfold applyC
  have h1 : OkDir n (if c.fr = [] then l else M.without l c.fr) := by
    split
    · exact h
    · exact h.without _
  split
  · exact h1
  · rename_i hne
    rcases hc with hc | hc
    · exact absurd hc hne
    · exact (h1.without c.to).ins (fun p hp => (without_mem.1 hp).2) hc.1 hc.2
theorem OkDir.foldl {n : Nat} : ∀ {cs : List Chg} {l : Dir}, OkDir n l → (∀ c ∈ cs, c.to = [] ∨ (rightB c.to = true ∧ c.f < n)) → OkDir n (cs.foldl applyC l)
  | [], _, h, _ => h
  | c :: cs, l, h, hc => OkDir.foldl (cs := cs) (l := applyC l c) (h.apply (hc c (by simp))) fun x hx => hc x (by simp [hx])
theorem OkDisk.now {A : DiskA} (h : OkDisk A) : OkDir A.files.length A.now := OkDir.foldl h.dir0 h.chgs
theorem OkDisk.dirAt {A : DiskA} (h : OkDisk A) (i : Nat) : OkDir A.files.length (A.dirAt i) := OkDir.foldl h.dir0 fun c hc => h.chgs c (List.mem_of_mem_take hc)
theorem DiskA.dirAt_now (A : DiskA) : A.dirAt A.chgs.length = A.now := by unfold DiskA.dirAt DiskA.now; rw [List.take_length]
theorem OkDir.mono {n m : Nat} {l : Dir} (h : OkDir n l) (hm : n ≤ m) : OkDir m l := ⟨h.rising, h.right, fun p hp => Nat.lt_of_lt_of_le (h.file p hp) hm⟩
theorem OkDir.nodup {n : Nat} {l : Dir} (h : OkDir n l) : (l.map (·.1)).Nodup := by
  refine List.pairwise_map.2 (h.rising.imp fun {a b} hlt he => ?_)
  rw [he] at hlt
  exact List.lt_irrefl _ hlt
theorem findD_some {l : Dir} {k : List UInt8} {i : Nat} (h : findD l k = some i) : (k, i) ∈ l := by
  unfold findD at h
  cases hf : l.find? (fun p => decide (p.1 = k)) with
  | none => rw [hf] at h; cases h
  | some p =>
    rw [hf] at h
    have h1 := List.find?_some hf
    have h2 := List.mem_of_find?_eq_some hf
    simp at h h1
    subst h h1
    exact h2
theorem findD_none {l : Dir} {k : List UInt8} (h : findD l k = none) : ∀ p ∈ l, p.1 ≠ k := by
  unfold findD at h
  intro p hp he
  rw [Option.map_eq_none_iff, List.find?_eq_none] at h
  exact h p hp (by simpa using he)
theorem findD_of {n : Nat} {l : Dir} (h : OkDir n l) {k : List UInt8} {i : Nat} (hm : (k, i) ∈ l) : findD l k = some i := by
  cases hf : findD l k with
  | none => exact absurd rfl (findD_none hf _ hm)
  | some j =>
    have h1 := findD_some hf
    have : ∀ l : Dir, (l.map (·.1)).Nodup → (k, i) ∈ l → (k, j) ∈ l → i = j := by
      intro l
      induction l with
      | nil => intro _ h; simp at h
      | cons p ps ih =>
        intro hn h1 h2
        rw [List.map_cons, List.nodup_cons] at hn
        rcases List.mem_cons.1 h1 with h1 | h1 <;> rcases List.mem_cons.1 h2 with h2 | h2
        · rw [← h1] at h2; exact (congrArg Prod.snd h2).symm
        · exfalso; apply hn.1; rw [← h1]; exact List.mem_map_of_mem (f := (·.1)) h2
        · exfalso; apply hn.1; rw [← h2]; exact List.mem_map_of_mem (f := (·.1)) h1
        · exact ih hn.2 h1 h2
    rw [this l h.nodup hm h1]
/-! ### What is done -/
/-- The fuse burns by an operation. -/
def DiskA.burn (A : DiskA) : DiskA := if A.fuse = 0 then A else { A with fuse := A.fuse - 1, off := decide (A.fuse = 1) }
def DiskA.chg (A : DiskA) (c : Chg) : DiskA := { A with chgs := A.chgs ++ [c] }
/-- An operation that changes something, if the power stays. -/
def DiskA.op (A : DiskA) (f : DiskA → DiskA) : Nat × DiskA := if A.burn.off then (7, A.burn) else (0, f A.burn)
def DiskA.create (A : DiskA) (name : List UInt8) : Nat × DiskA :=
  if A.off then (7, A)
  else if (findD A.now name).isSome then (5, A)
  else if rightB name then A.op fun A => { A with files := A.files ++ [⟨[], 0⟩], chgs := A.chgs ++ [⟨[], name, A.files.length⟩] }
  else (1, A)
def DiskA.append (A : DiskA) (name data : List UInt8) : Nat × DiskA :=
  if A.off then (7, A) else match findD A.now name with
    | none => (4, A)
    | some k => if A.room < A.used + data.length then (6, A) else A.op fun A => { A with files := A.files.set k ⟨(fileD A.files k).data ++ data, (fileD A.files k).kept⟩ }
def DiskA.sync (A : DiskA) (name : List UInt8) : Nat × DiskA :=
  if A.off then (7, A) else match findD A.now name with
    | none => (4, A)
    | some k => A.op fun A => { A with files := A.files.set k ⟨(fileD A.files k).data, (fileD A.files k).data.length⟩ }
def DiskA.rename (A : DiskA) (fr to : List UInt8) : Nat × DiskA :=
  if A.off then (7, A)
  else if rightB to then match findD A.now fr with
    | none => (4, A)
    | some k => if fr = to then A.op id else A.op fun A => A.chg ⟨fr, to, k⟩
  else (1, A)
def DiskA.delete (A : DiskA) (name : List UInt8) : Nat × DiskA :=
  if A.off then (7, A) else match findD A.now name with
    | none => (4, A)
    | some _ => A.op fun A => A.chg ⟨name, [], 0⟩
def DiskA.dirSync (A : DiskA) : Nat × DiskA := if A.off then (7, A) else A.op fun A => { A with dir0 := A.now, chgs := [] }
def DiskA.read (A : DiskA) (name : List UInt8) : List UInt8 × Nat :=
  if A.off then ([], 7) else match findD A.now name with
    | none => ([], 4)
    | some k => ((fileD A.files k).data, 0)
def DiskA.setFuse (A : DiskA) (n : Int) : DiskA := { A with fuse := n.toNat }
def DiskA.start (A : DiskA) : DiskA := { A with off := false }
def newD (room : Int) : DiskA := ⟨min room.toNat 1048576, [], [], [], false, 0⟩
/-- What is turned of a tail by four bytes of a mask. -/
def turn (mask : Nat) (at_ : Nat) (l : List UInt8) : List UInt8 := l.mapIdx fun i c => if at_ ≤ i ∧ i < at_ + 4 then c ^^^ UInt8.ofNat (mask / 256 ^ (i - at_)) else c
structure CrashV where
  names : Int
  keep : List Int
  spoil : List (Int × Nat)
/-- What a crash's k-th choices leave of a tail. -/
def left (tail : List UInt8) (c : CrashV) (k : Nat) : List UInt8 :=
  match c.keep[k]? with
  | none => []
  | some n =>
    let m := min n.toNat tail.length
    match c.spoil[k]? with
    | none => tail.take m
    | some (a, mask) => if m = 0 then [] else turn mask ((Int.emod a m).toNat) (tail.take m)
def crashF (c : CrashV) : List (List UInt8 × Nat) → List FileV → Nat → List FileV
  | [], fs, _ => fs
  | (_, i) :: l, fs, k =>
    if (fileD fs i).kept = (fileD fs i).data.length then crashF c l fs k
    else
      let s := (fileD fs i).data.take (fileD fs i).kept ++ left ((fileD fs i).data.drop (fileD fs i).kept) c k
      crashF c l (fs.set i ⟨s, s.length⟩) (k + 1)
def DiskA.crash (A : DiskA) (c : CrashV) : DiskA :=
  let l := A.dirAt (min c.names.toNat A.chgs.length)
  { A with off := true, dir0 := l, chgs := [], files := crashF c l A.files 0 }
end Go.M
end
section
set_option linter.unusedVariables false
namespace Go.M
theorem burn_room (A : DiskA) : A.burn.room = A.room ∧ A.burn.files = A.files ∧ A.burn.dir0 = A.dir0 ∧ A.burn.chgs = A.chgs := by
  unfold DiskA.burn
  split <;> exact ⟨rfl, rfl, rfl, rfl⟩
theorem burn_now (A : DiskA) : A.burn.now = A.now := by unfold DiskA.now; rw [(burn_room A).2.2.1, (burn_room A).2.2.2]
theorem OkDisk.burn {A : DiskA} (ok : OkDisk A) : OkDisk A.burn := by
  obtain ⟨h1, h2, h3, h4⟩ := burn_room A
  refine ⟨by rw [h2, h3]; exact ok.dir0, by rw [h4, h2]; exact ok.chgs, by rw [h2]; exact ok.kept, by rw [h2]; exact ok.size, by rw [h1]; exact ok.room, ?_, by rw [h2]; exact ok.nfiles, by rw [h4]; exact ok.nchgs⟩
  have := ok.fuse
  unfold DiskA.burn
  split
  · exact this
  · show A.fuse - 1 < _
    omega
theorem OkDisk.chg {A : DiskA} (ok : OkDisk A) {c : Chg} (hc : c.to = [] ∨ (rightB c.to = true ∧ c.f < A.files.length)) (hn : A.chgs.length < 1000000000) : OkDisk (A.chg c) :=
  ⟨ok.dir0, fun x hx => by rcases List.mem_append.1 hx with hx | hx
                           · exact ok.chgs x hx
                           · rw [List.mem_singleton] at hx; subst hx; exact hc, ok.kept, ok.size, ok.room, ok.fuse, ok.nfiles, by show (A.chgs ++ [c]).length ≤ _; rw [List.length_append]; simp; omega⟩
/-- A disk with one more file. -/
def DiskA.more (A : DiskA) : DiskA := { A with files := A.files ++ [⟨[], 0⟩] }
theorem OkDisk.more {A : DiskA} (ok : OkDisk A) (hn : A.files.length < 1000000000) : OkDisk A.more := by
  have hl : A.more.files.length = A.files.length + 1 := by show (A.files ++ [_]).length = _; simp
  refine ⟨by rw [hl]; exact ok.dir0.mono (by omega), fun c hc => (ok.chgs c hc).imp id fun h => ⟨h.1, by rw [hl]; omega⟩, fun f hf => ?_, fun f hf => ?_, ok.room, ok.fuse, by rw [hl]; omega, ok.nchgs⟩
  · rcases List.mem_append.1 hf with hf | hf
    · exact ok.kept f hf
    · rw [List.mem_singleton] at hf; subst hf; simp
  · rcases List.mem_append.1 hf with hf | hf
    · exact ok.size f hf
    · rw [List.mem_singleton] at hf; subst hf; simp
theorem burn_more (A : DiskA) : A.more.burn = A.burn.more := by
  unfold DiskA.burn DiskA.more
  split <;> simp_all
theorem burn_off_more (A : DiskA) : A.more.burn.off = A.burn.off := by rw [burn_more]; rfl
/-- One file is another one. -/
def DiskA.setFile (A : DiskA) (k : Nat) (f : FileV) : DiskA := { A with files := A.files.set k f }
theorem OkDisk.setFile {A : DiskA} (ok : OkDisk A) {k : Nat} {f : FileV} (h1 : f.kept ≤ f.data.length) (h2 : f.data.length ≤ 1048576) : OkDisk (A.setFile k f) := by
  have hl : (A.setFile k f).files.length = A.files.length := by show (A.files.set k f).length = _; simp
  refine ⟨by rw [hl]; exact ok.dir0, by rw [hl]; exact ok.chgs, fun g hg => ?_, fun g hg => ?_, ok.room, ok.fuse, by rw [hl]; exact ok.nfiles, ok.nchgs⟩
  · rcases List.mem_or_eq_of_mem_set hg with hg | rfl
    · exact ok.kept g hg
    · exact h1
  · rcases List.mem_or_eq_of_mem_set hg with hg | rfl
    · exact ok.size g hg
    · exact h2
theorem fileD_eq {fs : List FileV} {i : Nat} (h : i < fs.length) : fileD fs i = fs[i] := by unfold fileD; rw [List.getD_eq_getElem?_getD, List.getElem?_eq_getElem h]; rfl
theorem OkDisk.fileD {A : DiskA} (ok : OkDisk A) {i : Nat} (h : i < A.files.length) : (fileD A.files i).kept ≤ (fileD A.files i).data.length ∧ (fileD A.files i).data.length ≤ 1048576 := by
  rw [fileD_eq h]
  exact ⟨ok.kept _ (List.getElem_mem h), ok.size _ (List.getElem_mem h)⟩
theorem used_ge {files : List FileV} {l : Dir} {p : List UInt8 × Nat} (h : p ∈ l) : (fileD files p.2).data.length ≤ usedD files l := by
  unfold usedD
  induction l with
  | nil => simp at h
  | cons q l ih =>
    rw [List.map_cons, List.sum_cons]
    rcases List.mem_cons.1 h with rfl | h
    · omega
    · have := ih h; omega
theorem op_ok {A : DiskA} {f : DiskA → DiskA} (ok : OkDisk A) (h : OkDisk A.burn → OkDisk (f A.burn)) : OkDisk (A.op f).2 := by
  unfold DiskA.op
  split
  · exact ok.burn
  · exact h ok.burn
theorem create_eq (A : DiskA) (name : List UInt8) : A.create name = if A.off then (7, A)
  else if (findD A.now name).isSome then (5, A)
  else if rightB name then A.op fun A => A.more.chg ⟨[], name, A.files.length⟩
  else (1, A) := rfl
theorem create_ok {A : DiskA} (ok : OkDisk A) (name : List UInt8) (h1 : A.files.length < 1000000000) (h2 : A.chgs.length < 1000000000) : OkDisk (A.create name).2 := by
  rw [create_eq]
  obtain ⟨b1, b2, b3, b4⟩ := burn_room A
  split
  · exact ok
  · split
    · exact ok
    · split
      · rename_i hr
        refine op_ok ok fun okb => (okb.more (by rw [b2]; exact h1)).chg (.inr ⟨hr, ?_⟩) (by show A.burn.chgs.length < _; rw [b4]; exact h2)
        show A.burn.files.length < (A.burn.files ++ [_]).length
        simp
      · exact ok
theorem append_ok {A : DiskA} (ok : OkDisk A) (name data : List UInt8) : OkDisk (A.append name data).2 := by
  unfold DiskA.append
  split
  · exact ok
  · split
    · exact ok
    · rename_i k hk
      split
      · exact ok
      · rename_i hr
        obtain ⟨b1, b2, b3, b4⟩ := burn_room A
        have hm := findD_some hk
        have hf := ok.now.file _ hm
        have hd := ok.fileD (i := k) hf
        have hu : (fileD A.files k).data.length ≤ A.used := used_ge hm
        have hroom := ok.room
        refine op_ok ok fun okb => okb.setFile ?_ ?_
        · rw [b2]; show (fileD A.files k).kept ≤ ((fileD A.files k).data ++ data).length; rw [List.length_append]; omega
        · rw [b2]; show ((fileD A.files k).data ++ data).length ≤ _; rw [List.length_append]; omega
theorem sync_ok {A : DiskA} (ok : OkDisk A) (name : List UInt8) : OkDisk (A.sync name).2 := by
  unfold DiskA.sync
  split
  · exact ok
  · split
    · exact ok
    · rename_i k hk
      obtain ⟨b1, b2, b3, b4⟩ := burn_room A
      have hd := ok.fileD (ok.now.file _ (findD_some hk))
      exact op_ok ok fun okb => okb.setFile (Nat.le_refl _) (by rw [b2]; exact hd.2)
theorem rename_ok {A : DiskA} (ok : OkDisk A) (fr to : List UInt8) (h2 : A.chgs.length < 1000000000) : OkDisk (A.rename fr to).2 := by
  unfold DiskA.rename
  split
  · exact ok
  · split
    · rename_i hr
      split
      · exact ok
      · rename_i k hk
        obtain ⟨b1, b2, b3, b4⟩ := burn_room A
        split
        · exact op_ok ok fun okb => okb
        · exact op_ok ok fun okb => okb.chg (.inr ⟨hr, by rw [b2]; exact ok.now.file _ (findD_some hk)⟩) (by rw [b4]; exact h2)
    · exact ok
theorem delete_ok {A : DiskA} (ok : OkDisk A) (name : List UInt8) (h2 : A.chgs.length < 1000000000) : OkDisk (A.delete name).2 := by
  unfold DiskA.delete
  split
  · exact ok
  · split
    · exact ok
    · obtain ⟨b1, b2, b3, b4⟩ := burn_room A
      exact op_ok ok fun okb => okb.chg (.inl rfl) (by rw [b4]; exact h2)
theorem dirSync_ok {A : DiskA} (ok : OkDisk A) : OkDisk A.dirSync.2 := by
  unfold DiskA.dirSync
  split
  · exact ok
  · refine op_ok ok fun okb => ⟨okb.now, fun c hc => by simp at hc, okb.kept, okb.size, okb.room, okb.fuse, okb.nfiles, by show 0 ≤ _; omega⟩
theorem new_ok (room : Int) : OkDisk (newD room) :=
  ⟨⟨List.Pairwise.nil, fun p hp => by simp [newD] at hp, fun p hp => by simp [newD] at hp⟩, fun c hc => by simp [newD] at hc, fun f hf => by simp [newD] at hf, fun f hf => by simp [newD] at hf, by show min room.toNat 1048576 ≤ _; omega, by show 0 < _; omega, by show 0 ≤ _; omega, by show 0 ≤ _; omega⟩
theorem setFuse_ok {A : DiskA} (ok : OkDisk A) (n : Int) (h : n < 9223372036854775808) : OkDisk (A.setFuse n) := ⟨ok.dir0, ok.chgs, ok.kept, ok.size, ok.room, by show n.toNat < _; omega, ok.nfiles, ok.nchgs⟩
theorem start_ok {A : DiskA} (ok : OkDisk A) : OkDisk A.start := ⟨ok.dir0, ok.chgs, ok.kept, ok.size, ok.room, ok.fuse, ok.nfiles, ok.nchgs⟩
end Go.M
end
section
set_option linter.unusedVariables false
namespace Go.M
theorem left_len (tail : List UInt8) (c : CrashV) (k : Nat) : (left tail c k).length ≤ tail.length := by
  unfold left
  cases c.keep[k]? with
  | none => simp
  | some n =>
    dsimp only
    cases c.spoil[k]? with
    | none => simp; omega
    | some q =>
      dsimp only
      split
      · simp
      · unfold turn
        simp
        omega
/-- What a crash leaves of a file. -/
def leftF (f : FileV) (c : CrashV) (k : Nat) : FileV :=
  ⟨f.data.take f.kept ++ left (f.data.drop f.kept) c k, (f.data.take f.kept ++ left (f.data.drop f.kept) c k).length⟩
theorem leftF_ok {f : FileV} (c : CrashV) (k : Nat) (h : f.data.length ≤ 1048576) : (leftF f c k).kept ≤ (leftF f c k).data.length ∧ (leftF f c k).data.length ≤ 1048576 := by
  refine ⟨Nat.le_refl _, ?_⟩
  show (f.data.take f.kept ++ left (f.data.drop f.kept) c k).length ≤ _
  have := left_len (f.data.drop f.kept) c k
  rw [List.length_append, List.length_take]
  rw [List.length_drop] at this
  omega
theorem crashF_cons (c : CrashV) (p : List UInt8 × Nat) (l : Dir) (fs : List FileV) (k : Nat) : crashF c (p :: l) fs k = if (fileD fs p.2).kept = (fileD fs p.2).data.length then crashF c l fs k else crashF c l (fs.set p.2 (leftF (fileD fs p.2) c k)) (k + 1) := rfl
theorem crashF_ok (c : CrashV) : ∀ (l : Dir) (fs : List FileV) (k : Nat), (∀ f ∈ fs, f.kept ≤ f.data.length ∧ f.data.length ≤ 1048576) → (∀ p ∈ l, p.2 < fs.length) → (crashF c l fs k).length = fs.length ∧ ∀ f ∈ crashF c l fs k, f.kept ≤ f.data.length ∧ f.data.length ≤ 1048576
  | [], fs, k, h, _ => ⟨rfl, h⟩
  | p :: l, fs, k, h, hl => by
    rw [crashF_cons]
    split
    · exact crashF_ok c l fs k h fun q hq => hl q (by simp [hq])
    · have hp := hl p (by simp)
      have := crashF_ok c l (fs.set p.2 (leftF (fileD fs p.2) c k)) (k + 1) (fun f hf => ?_) fun q hq => by rw [List.length_set]; exact hl q (by simp [hq])
      · rw [List.length_set] at this; exact this
      · rcases List.mem_or_eq_of_mem_set hf with hf | rfl
        · exact h f hf
        · exact leftF_ok c k (by rw [fileD_eq hp]; exact (h _ (List.getElem_mem hp)).2)
theorem crash_ok {A : DiskA} (ok : OkDisk A) (c : CrashV) : OkDisk (A.crash c) := by
  have hd := ok.dirAt (min c.names.toNat A.chgs.length)
  obtain ⟨h1, h2⟩ := crashF_ok c (A.dirAt (min c.names.toNat A.chgs.length)) A.files 0 (fun f hf => ⟨ok.kept f hf, ok.size f hf⟩) hd.file
  refine ⟨?_, fun x hx => by simp [DiskA.crash] at hx, fun f hf => (h2 f hf).1, fun f hf => (h2 f hf).2, ok.room, ok.fuse, ?_, by show 0 ≤ _; omega⟩
  · show OkDir (crashF c _ A.files 0).length _
    rw [h1]
    exact hd
  · show (crashF c _ A.files 0).length ≤ _
    rw [h1]
    exact ok.nfiles
end Go.M
end
section
namespace Go.M
structure OpV where
  key : List UInt8
  val : List UInt8
  gone : Bool
  deriving DecidableEq
def longO (o : OpV) : Bool := decide (64 < o.key.length) || decide (512 < o.val.length)
def badO (o : OpV) : Bool := o.key.isEmpty || (o.gone && !o.val.isEmpty)
def checkB (seq : Nat) (ops : List OpV) : Nat :=
  if 16 < ops.length ∨ ops.any longO = true then 3
  else if ops = [] ∨ seq = 0 ∨ 9223372036854775808 < seq ∨ 9223372036854775809 < seq + ops.length ∨ ops.any badO = true then 1
  else 0
def opB (o : OpV) : List UInt8 := if o.gone then 1 :: textB [o.key] else 0 :: textB [o.key, o.val]
def batB (seq : Nat) (ops : List OpV) : List UInt8 := row seq ++ row ops.length ++ ops.flatMap opB
/-- An operation at a text's beginning, as the program reads it: it, and what is behind it. -/
def readOp (s : List UInt8) : Option (OpV × List UInt8) :=
  match s with
  | [] => none
  | c :: r =>
    match readText r 64 with
    | none => none
    | some (key, k) =>
      if c = 1 then some (⟨key, [], true⟩, r.drop k)
      else if c = 0 then
        match readText (r.drop k) 512 with
        | none => none
        | some (val, j) => some (⟨key, val, false⟩, (r.drop k).drop j)
      else none
/-- .. as the document reads it: whatever is no 1 is a 0. -/
def readOp' (s : List UInt8) : Option (OpV × List UInt8) :=
  match s with
  | [] => none
  | c :: r =>
    match readText r 64 with
    | none => none
    | some (key, k) =>
      if c = 1 then some (⟨key, [], true⟩, r.drop k)
      else
        match readText (r.drop k) 512 with
        | none => none
        | some (val, j) => some (⟨key, val, false⟩, (r.drop k).drop j)
def readOps (rd : List UInt8 → Option (OpV × List UInt8)) : Nat → List UInt8 → Option (List OpV × List UInt8)
  | 0, s => some ([], s)
  | n + 1, s => match rd s with
    | none => none
    | some (o, r) => match readOps rd n r with
      | none => none
      | some (os, t) => some (o :: os, t)
def readHead (s : List UInt8) : Option (Nat × Nat × List UInt8) :=
  match readVar s with
  | none => none
  | some (seq, k) => match readVar (s.drop k) with
    | none => none
    | some (n, j) => if n ≤ 16 then some (seq, n, (s.drop k).drop j) else none
def decB (s : List UInt8) : Option (Nat × List OpV) :=
  match readHead s with
  | none => none
  | some (seq, n, r) => match readOps readOp n r with
    | none => none
    | some (ops, t) => if t = [] ∧ checkB seq ops = 0 then some (seq, ops) else none
def decB' (s : List UInt8) : Option (Nat × List OpV) :=
  match readHead s with
  | none => none
  | some (seq, n, r) => match readOps readOp' n r with
    | none => none
    | some (ops, _) => if checkB seq ops = 0 ∧ batB seq ops = s then some (seq, ops) else none
theorem readText_some {s t : List UInt8} {m k : Nat} (h : readText s m = some (t, k)) : s = row t.length ++ t ++ s.drop k ∧ t.length ≤ m ∧ k ≤ s.length ∧ (row t.length ++ t).length = k := by
  unfold readText at h
  cases hv : readVar s with
  | none => rw [hv] at h; cases h
  | some p =>
    obtain ⟨n, j⟩ := p
    rw [hv] at h
    obtain ⟨r1, r2, r3, r4⟩ := readVar_row hv
    simp only at h
    split at h
    · rename_i hc
      simp only [Option.some.injEq, Prod.mk.injEq] at h
      obtain ⟨rfl, rfl⟩ := h
      have hl : ((s.drop j).take n).length = n := by rw [List.length_take, List.length_drop]; omega
      have hj : (row n).length = j := by rw [← r1, List.length_take]; omega
      rw [hl]
      refine ⟨?_, hc.1, by omega, by rw [List.length_append, hj, hl]⟩
      rw [← r1, ← List.drop_drop, List.append_assoc, List.take_append_drop, List.take_append_drop]
    · cases h
theorem readText_row {t : List UInt8} {m : Nat} (r : List UInt8) (h : t.length ≤ m) (hl : t.length < 18446744073709551616) : readText (row t.length ++ t ++ r) m = some (t, (row t.length ++ t).length) := by
  unfold readText
  rw [List.append_assoc, readVar_of_row hl]
  simp only
  rw [if_pos ⟨h, by simp⟩]
  simp
theorem readOp_some {s t : List UInt8} {o : OpV} (h : readOp s = some (o, t)) : s = opB o ++ t ∧ longO o = false := by
  unfold readOp at h
  cases s with
  | nil => cases h
  | cons c r =>
    simp only at h
    cases h1 : readText r 64 with
    | none => rw [h1] at h; cases h
    | some p =>
      obtain ⟨key, k⟩ := p
      rw [h1] at h
      obtain ⟨e1, e2, e3, e4⟩ := readText_some h1
      simp only at h
      split at h
      · rename_i hc
        simp only [Option.some.injEq, Prod.mk.injEq] at h
        obtain ⟨rfl, rfl⟩ := h
        subst hc
        refine ⟨?_, by simp [longO]; omega⟩
        unfold opB textB
        simp only [if_true, List.flatMap_cons, List.flatMap_nil, List.append_nil, List.cons_append, List.cons.injEq, true_and]
        exact e1
      · rename_i hc1
        split at h
        · rename_i hc
          cases h2 : readText (r.drop k) 512 with
          | none => rw [h2] at h; cases h
          | some p =>
            obtain ⟨val, j⟩ := p
            rw [h2] at h
            obtain ⟨f1, f2, f3, f4⟩ := readText_some h2
            simp only [Option.some.injEq, Prod.mk.injEq] at h
            obtain ⟨rfl, rfl⟩ := h
            subst hc
            refine ⟨?_, by simp [longO]; omega⟩
            unfold opB textB
            simp only [Bool.false_eq_true, if_false, List.flatMap_cons, List.flatMap_nil, List.append_nil, List.cons_append, List.cons.injEq, true_and]
            rw [List.append_assoc, ← f1]
            exact e1
        · cases h
theorem readOp_op {o : OpV} (r : List UInt8) (h1 : longO o = false) (h2 : badO o = false) : readOp (opB o ++ r) = some (o, r) := by
  obtain ⟨key, val, gone⟩ := o
  simp only [longO, Bool.or_eq_false_iff, decide_eq_false_iff_not, Nat.not_lt] at h1
  cases gone with
  | true =>
    have hv : val = [] := by simpa [badO] using (by simpa [badO] using h2 : key ≠ [] ∧ val = []).2
    subst hv
    have e : opB ⟨key, [], true⟩ ++ r = 1 :: (row key.length ++ key ++ r) := by simp [opB, textB]
    rw [e]
    unfold readOp
    simp only
    rw [readText_row r h1.1 (by omega)]
    simp
  | false =>
    have e : opB ⟨key, val, false⟩ ++ r = 0 :: (row key.length ++ key ++ (row val.length ++ val ++ r)) := by simp [opB, textB]
    rw [e]
    unfold readOp
    simp only
    rw [readText_row _ h1.1 (by omega)]
    have ed : List.drop (row key.length ++ key).length (row key.length ++ key ++ (row val.length ++ val ++ r)) = row val.length ++ val ++ r := List.drop_left
    simp only [ed]
    rw [if_neg (by decide), if_pos trivial, readText_row _ h1.2 (by omega)]
    simp only [List.drop_left]
theorem readOps_some : ∀ (n : Nat) {s t : List UInt8} {ops : List OpV}, readOps readOp n s = some (ops, t) → s = ops.flatMap opB ++ t ∧ ops.length = n
  | 0, s, t, ops, h => by
    simp only [readOps, Option.some.injEq, Prod.mk.injEq] at h
    obtain ⟨rfl, rfl⟩ := h
    simp
  | n + 1, s, t, ops, h => by
    simp only [readOps] at h
    cases h1 : readOp s with
    | none => rw [h1] at h; cases h
    | some p =>
      obtain ⟨o, r⟩ := p
      rw [h1] at h
      simp only at h
      cases h2 : readOps readOp n r with
      | none => rw [h2] at h; cases h
      | some q =>
        obtain ⟨os, u⟩ := q
        rw [h2] at h
        simp only [Option.some.injEq, Prod.mk.injEq] at h
        obtain ⟨rfl, rfl⟩ := h
        obtain ⟨e1, e2⟩ := readOps_some n h2
        refine ⟨?_, by simp [e2]⟩
        rw [List.flatMap_cons, List.append_assoc, ← e1]
        exact (readOp_some h1).1
theorem readOps_ops : ∀ (ops : List OpV) (r : List UInt8), ops.any longO = false → ops.any badO = false → readOps readOp ops.length (ops.flatMap opB ++ r) = some (ops, r)
  | [], r, _, _ => rfl
  | o :: ops, r, h1, h2 => by
    simp only [List.any_cons, Bool.or_eq_false_iff] at h1 h2
    rw [List.flatMap_cons, List.append_assoc, List.length_cons]
    simp only [readOps]
    rw [readOp_op _ h1.1 h2.1]
    simp only
    rw [readOps_ops ops r h1.2 h2.2]
theorem readOp_sub {s : List UInt8} {x : OpV × List UInt8} (h : readOp s = some x) : readOp' s = some x := by
  unfold readOp at h
  unfold readOp'
  cases s with
  | nil => cases h
  | cons c r =>
    simp only at h ⊢
    split at h
    · cases h
    · split at h
      · rename_i hc; rw [if_pos hc]; exact h
      · rename_i hc
        rw [if_neg hc]
        split at h
        · exact h
        · cases h
theorem readOps_sub : ∀ (n : Nat) (s : List UInt8) (x : List OpV × List UInt8), readOps readOp n s = some x → readOps readOp' n s = some x
  | 0, _, _, h => h
  | n + 1, s, x, h => by
    simp only [readOps] at h ⊢
    cases h1 : readOp s with
    | none => rw [h1] at h; cases h
    | some p =>
      rw [h1] at h
      rw [readOp_sub h1]
      simp only at h ⊢
      cases h2 : readOps readOp n p.2 with
      | none => rw [h2] at h; cases h
      | some q =>
        rw [h2] at h
        rw [readOps_sub n _ _ h2]
        exact h
theorem readHead_some {s r : List UInt8} {seq n : Nat} (h : readHead s = some (seq, n, r)) : s = row seq ++ row n ++ r ∧ n ≤ 16 ∧ seq < 18446744073709551616 := by
  unfold readHead at h
  cases h1 : readVar s with
  | none => rw [h1] at h; cases h
  | some p =>
    obtain ⟨a, k⟩ := p
    rw [h1] at h
    simp only at h
    cases h2 : readVar (s.drop k) with
    | none => rw [h2] at h; cases h
    | some q =>
      obtain ⟨b, j⟩ := q
      rw [h2] at h
      simp only at h
      split at h
      · rename_i hn
        simp only [Option.some.injEq, Prod.mk.injEq] at h
        obtain ⟨rfl, rfl, rfl⟩ := h
        obtain ⟨e1, e2, e3, e4⟩ := readVar_row h1
        obtain ⟨f1, f2, f3, f4⟩ := readVar_row h2
        refine ⟨?_, hn, e3⟩
        rw [← e1, ← f1, List.append_assoc, List.take_append_drop, List.take_append_drop]
      · cases h
theorem readHead_row {seq n : Nat} (h1 : seq < 18446744073709551616) (h2 : n ≤ 16) (r : List UInt8) : readHead (row seq ++ row n ++ r) = some (seq, n, r) := by
  unfold readHead
  rw [List.append_assoc, readVar_of_row h1]
  simp only [List.drop_left]
  rw [readVar_of_row (by omega)]
  simp only [List.drop_left]
  rw [if_pos h2]
theorem decB_bat {s : List UInt8} {seq : Nat} {ops : List OpV} (h : decB s = some (seq, ops)) : checkB seq ops = 0 ∧ batB seq ops = s := by
  unfold decB at h
  cases h1 : readHead s with
  | none => rw [h1] at h; cases h
  | some p =>
    obtain ⟨a, n, r⟩ := p
    rw [h1] at h
    simp only at h
    cases h2 : readOps readOp n r with
    | none => rw [h2] at h; cases h
    | some q =>
      obtain ⟨os, t⟩ := q
      rw [h2] at h
      simp only at h
      split at h
      · rename_i hc
        simp only [Option.some.injEq, Prod.mk.injEq] at h
        obtain ⟨rfl, rfl⟩ := h
        obtain ⟨e1, e2, e3⟩ := readHead_some h1
        obtain ⟨f1, f2⟩ := readOps_some n h2
        refine ⟨hc.2, ?_⟩
        unfold batB
        rw [f2, e1, f1, hc.1, List.append_nil]
      · cases h
theorem bat_decB {seq : Nat} {ops : List OpV} (h : checkB seq ops = 0) : decB (batB seq ops) = some (seq, ops) := by
  have hc := h
  unfold checkB at hc
  split at hc
  · cases hc
  · rename_i h1
    split at hc
    · cases hc
    · rename_i h2
      simp only [not_or, Nat.not_lt, Bool.not_eq_true] at h1 h2
      unfold decB batB
      rw [readHead_row (by omega) h1.1]
      simp only
      have := readOps_ops ops [] h1.2 h2.2.2.2.2
      rw [List.append_nil] at this
      rw [this]
      simp only
      rw [if_pos ⟨trivial, h⟩]
theorem decB_eq (s : List UInt8) : decB' s = decB s := by
  cases hd : decB s with
  | some p =>
    obtain ⟨seq, ops⟩ := p
    obtain ⟨hc, he⟩ := decB_bat hd
    unfold decB at hd
    unfold decB'
    cases h1 : readHead s with
    | none => rw [h1] at hd; cases hd
    | some p =>
      obtain ⟨a, n, r⟩ := p
      rw [h1] at hd
      simp only at hd ⊢
      cases h2 : readOps readOp n r with
      | none => rw [h2] at hd; cases hd
      | some q =>
        obtain ⟨os, t⟩ := q
        rw [h2] at hd
        rw [readOps_sub _ _ _ h2]
        simp only at hd ⊢
        split at hd
        · simp only [Option.some.injEq, Prod.mk.injEq] at hd
          obtain ⟨rfl, rfl⟩ := hd
          rw [if_pos ⟨hc, he⟩]
        · cases hd
  | none =>
    unfold decB'
    cases h1 : readHead s with
    | none => rfl
    | some p =>
      obtain ⟨a, n, r⟩ := p
      simp only
      cases h2 : readOps readOp' n r with
      | none => rfl
      | some q =>
        obtain ⟨os, t⟩ := q
        simp only
        split
        · rename_i hc
          have := bat_decB hc.1
          rw [hc.2, hd] at this
          cases this
        · rfl
end Go.M
end
section
set_option linter.unusedVariables false
namespace Go.M
def logW : List UInt8 := [108, 111, 103]
noncomputable def logsD (l : Dir) : List Nat := l.filterMap fun p => numB logW p.1
def sortU (l : List Nat) : List Nat := l.mergeSort fun a b => decide (a ≤ b)
noncomputable def DiskA.logs (A : DiskA) : List Nat := sortU (logsD A.now)
theorem sortU_perm (l : List Nat) : (sortU l).Perm l := List.mergeSort_perm _ _
theorem sortU_sorted (l : List Nat) : (sortU l).Pairwise (· ≤ ·) := by
  have := List.pairwise_mergeSort (le := fun a b : Nat => decide (a ≤ b)) (fun a b c h1 h2 => by simp at h1 h2 ⊢; omega) (fun a b => by simp; omega) l
  exact this.imp fun h => by simpa using h
theorem sortU_eq {l m : List Nat} (p : m.Perm l) (s : m.Pairwise (· ≤ ·)) : m = sortU l :=
  List.Perm.eq_of_pairwise (le := (· ≤ ·)) (fun a b _ _ h1 h2 => Nat.le_antisymm h1 h2) s (sortU_sorted l) (p.trans (sortU_perm l).symm)
theorem ins_sorted {l : List Nat} {n at_ : Nat} (hs : l.Pairwise (· ≤ ·)) (h1 : ∀ x ∈ l.drop at_, n < x) (h2 : ∀ x ∈ l.take at_, x ≤ n) : (l.take at_ ++ n :: l.drop at_).Pairwise (· ≤ ·) := by
  rw [List.pairwise_append, List.pairwise_cons]
  refine ⟨hs.sublist (List.take_sublist _ _), ⟨fun x hx => Nat.le_of_lt (h1 x hx), hs.sublist (List.drop_sublist _ _)⟩, fun x hx y hy => ?_⟩
  rcases List.mem_cons.1 hy with rfl | hy
  · exact h2 x hx
  · exact Nat.le_trans (h2 x hx) (Nat.le_of_lt (h1 y hy))
theorem ins_perm (l : List Nat) (n at_ : Nat) : (l.take at_ ++ n :: l.drop at_).Perm (n :: l) := by
  refine List.perm_middle.trans ?_
  rw [List.take_append_drop]
theorem take_le {l : List Nat} {n at_ : Nat} (hs : l.Pairwise (· ≤ ·)) (hat : at_ ≤ l.length) (h : at_ = 0 ∨ ∃ x, l[at_ - 1]? = some x ∧ x ≤ n) : ∀ x ∈ l.take at_, x ≤ n := by
  intro x hx
  rcases h with rfl | ⟨y, hy, hyn⟩
  · simp at hx
  · obtain ⟨i, hi, rfl⟩ := List.mem_iff_getElem.1 hx
    rw [List.getElem_take]
    rw [List.length_take] at hi
    obtain ⟨hlt, rfl⟩ := List.getElem?_eq_some_iff.1 hy
    by_cases he : i = at_ - 1
    · subst he; exact hyn
    · exact Nat.le_trans (List.pairwise_iff_getElem.1 hs i (at_ - 1) (by omega) hlt (by omega)) hyn
/-! ### Batches in a log -/
def batsR : List (List UInt8) → List (Nat × List OpV)
  | [] => []
  | r :: rs => match decB r with
    | none => []
    | some b => b :: batsR rs
def batsB (s : List UInt8) : List (Nat × List OpV) := batsR (readF s).1
theorem batsR_len : ∀ l, (batsR l).length ≤ l.length
  | [] => Nat.le_refl _
  | r :: rs => by
    unfold batsR
    cases decB r with
    | none => simp
    | some b => have := batsR_len rs; simp only [List.length_cons]; omega
theorem readF_len (s : List UInt8) : 32 * (readF s).1.length ≤ s.length := by
  induction s using (measure List.length).wf.induction with
  | h s ih =>
    cases h : rdF 0 [] s with
    | none => rw [readF_none h]; simp
    | some p =>
      obtain ⟨r, m⟩ := p
      obtain ⟨h1, h2, _⟩ := rdF_some 0 [] s r m rfl h
      rw [readF_some h]
      have := ih (s.drop (32 * m)) (by show (s.drop (32 * m)).length < s.length; rw [List.length_drop]; omega)
      rw [List.length_drop] at this
      simp only [List.length_cons]
      omega
theorem batsB_len (s : List UInt8) : 32 * (batsB s).length ≤ s.length := by
  have h1 := batsR_len (readF s).1
  have h2 := readF_len s
  unfold batsB
  omega
theorem opB_len {o : OpV} (h : longO o = false) : (opB o).length ≤ 595 := by
  simp only [longO, Bool.or_eq_false_iff, decide_eq_false_iff_not, Nat.not_lt] at h
  unfold opB
  split
  · have := textB_length [o.key] (by simp; omega)
    simp only [List.length_cons, List.length_nil, List.map_cons, List.map_nil, List.sum_cons, List.sum_nil] at this ⊢
    omega
  · have := textB_length [o.key, o.val] (by simp; omega)
    simp only [List.length_cons, List.length_nil, List.map_cons, List.map_nil, List.sum_cons, List.sum_nil] at this ⊢
    omega
theorem batB_len {seq : Nat} {ops : List OpV} (hs : seq < 18446744073709551616) (h : checkB seq ops = 0) : (batB seq ops).length ≤ 10000 := by
  unfold checkB at h
  split at h
  · cases h
  · rename_i h1
    simp only [not_or, Nat.not_lt, Bool.not_eq_true] at h1
    have e1 := row_length_le hs
    have e2 := row_length_le (n := ops.length) (by omega)
    have e3 : ∀ l : List OpV, l.any longO = false → (l.flatMap opB).length ≤ 595 * l.length := by
      intro l
      induction l with
      | nil => intro _; simp
      | cons o l ih =>
        intro hl
        simp only [List.any_cons, Bool.or_eq_false_iff] at hl
        have := opB_len hl.1
        have := ih hl.2
        rw [List.flatMap_cons, List.length_append, List.length_cons]
        omega
    have := e3 ops h1.2
    unfold batB
    rw [List.length_append, List.length_append]
    omega
/-! ### What is done -/
noncomputable def DiskA.begin (A : DiskA) (n : Nat) : Nat × DiskA := if (A.create (nameB logW n)).1 = 0 then (A.create (nameB logW n)).2.dirSync else A.create (nameB logW n)
def DiskA.app2 (A : DiskA) (name data : List UInt8) : Nat × DiskA := if (A.append name data).1 = 0 then (A.append name data).2.sync name else A.append name data
def DiskA.add (A : DiskA) (n seq : Nat) (ops : List OpV) : Nat × DiskA := if checkB seq ops = 0 then A.app2 (nameB logW n) (frm 0 (batB seq ops)) else (checkB seq ops, A)
noncomputable def DiskA.replay (A : DiskA) (from_ : Nat) : List (Nat × List OpV) × Nat :=
  if A.off then ([], 7) else ((A.logs.filter fun n => decide (from_ ≤ n)).flatMap fun n => batsB (A.read (nameB logW n)).1, 0)
def DiskA.dels (A : DiskA) : List Nat → Nat × DiskA
  | [] => (0, A)
  | n :: l => if (A.delete (nameB logW n)).1 = 0 then (A.delete (nameB logW n)).2.dels l else A.delete (nameB logW n)
noncomputable def DiskA.retire (A : DiskA) (before : Nat) : Nat × DiskA := if A.off then (7, A) else A.dels (A.logs.filter fun n => decide (n < before))
/-! ### How much there is -/
structure Bd (k c : Nat) (A : DiskA) : Prop where
  files : A.files.length ≤ k
  dirs : ∀ i, (A.dirAt i).length ≤ k
  chgs : A.chgs.length ≤ c
theorem Bd.now {k c : Nat} {A : DiskA} (b : Bd k c A) : A.now.length ≤ k := by rw [← DiskA.dirAt_now]; exact b.dirs _
theorem Bd.mono {k c k' c' : Nat} {A : DiskA} (b : Bd k c A) (h1 : k ≤ k') (h2 : c ≤ c') : Bd k' c' A := ⟨Nat.le_trans b.files h1, fun i => Nat.le_trans (b.dirs i) h1, Nat.le_trans b.chgs h2⟩
theorem applyC_len (l : Dir) (c : Chg) : (applyC l c).length ≤ l.length + (if c.to = [] then 0 else 1) := by
  unfold applyC
  have h1 : (if c.fr = [] then l else without l c.fr).length ≤ l.length := by
    split
    · exact Nat.le_refl _
    · exact without_len _ _
  split
  · exact h1
  · rw [(insD_perm _ _).length_eq, List.length_cons]
    have := without_len (if c.fr = [] then l else without l c.fr) c.to
    omega
theorem Bd.same {k c : Nat} {A A' : DiskA} (b : Bd k c A) (h1 : A'.files.length = A.files.length) (h2 : A'.dir0 = A.dir0) (h3 : A'.chgs = A.chgs) : Bd k c A' :=
  ⟨by rw [h1]; exact b.files, fun i => by unfold DiskA.dirAt; rw [h2, h3]; exact b.dirs i, by rw [h3]; exact b.chgs⟩
theorem Bd.burn {k c : Nat} {A : DiskA} (b : Bd k c A) : Bd k c A.burn := by
  obtain ⟨_, h2, h3, h4⟩ := burn_room A
  exact b.same (by rw [h2]) h3 h4
theorem Bd.op {k c : Nat} {A : DiskA} {f : DiskA → DiskA} (b : Bd k c A.burn) (h : Bd k c (f A.burn)) : Bd k c (A.op f).2 := by
  unfold DiskA.op
  split
  · exact b
  · exact h
theorem Bd.chg {k c : Nat} {A : DiskA} (b : Bd k c A) (g : Chg) : Bd (k + if g.to = [] then 0 else 1) (c + 1) (A.chg g) := by
  refine ⟨by show A.files.length ≤ _; have := b.files; omega, fun i => ?_, ?_⟩
  · unfold DiskA.dirAt
    show ((A.chgs ++ [g]).take i |>.foldl applyC A.dir0).length ≤ _
    rw [List.take_append]
    by_cases hi : i ≤ A.chgs.length
    · rw [show i - A.chgs.length = 0 by omega, List.take_zero, List.append_nil]
      have := b.dirs i
      unfold DiskA.dirAt at this
      omega
    · rw [List.take_of_length_le (by omega), List.take_of_length_le (by simp; omega), List.foldl_append]
      have := b.now
      have h2 := applyC_len A.now g
      unfold DiskA.now at this h2
      simp only [List.foldl_cons, List.foldl_nil]
      omega
  · show (A.chgs ++ [g]).length ≤ _
    have := b.chgs
    rw [List.length_append]
    simp
    omega
theorem Bd.create {k c : Nat} {A : DiskA} (b : Bd k c A) (name : List UInt8) : Bd (k + 1) (c + 1) (A.create name).2 := by
  rw [create_eq]
  have b' : Bd (k + 1) (c + 1) A := b.mono (by omega) (by omega)
  split
  · exact b'
  · split
    · exact b'
    · split
      · refine Bd.op b'.burn ?_
        have hm : Bd k c { A.burn.more with files := A.burn.files } := b.burn.same rfl rfl rfl
        have := hm.chg ⟨[], name, A.burn.files.length⟩
        refine ⟨?_, fun i => Nat.le_trans (this.dirs i) (by split <;> omega), this.chgs⟩
        show (A.burn.files ++ [_]).length ≤ _
        have := b.burn.files
        rw [List.length_append]
        simp
        omega
      · exact b'
theorem Bd.append {k c : Nat} {A : DiskA} (b : Bd k c A) (name data : List UInt8) : Bd k c (A.append name data).2 := by
  unfold DiskA.append
  split
  · exact b
  · split
    · exact b
    · split
      · exact b
      · exact Bd.op b.burn (b.burn.same (by simp) rfl rfl)
theorem Bd.sync {k c : Nat} {A : DiskA} (b : Bd k c A) (name : List UInt8) : Bd k c (A.sync name).2 := by
  unfold DiskA.sync
  split
  · exact b
  · split
    · exact b
    · exact Bd.op b.burn (b.burn.same (by simp) rfl rfl)
theorem Bd.rename {k c : Nat} {A : DiskA} (b : Bd k c A) (fr to : List UInt8) : Bd (k + 1) (c + 1) (A.rename fr to).2 := by
  unfold DiskA.rename
  have b' : Bd (k + 1) (c + 1) A := b.mono (by omega) (by omega)
  split
  · exact b'
  · split
    · split
      · exact b'
      · split
        · exact Bd.op b'.burn b'.burn
        · exact Bd.op b'.burn ((b.burn.chg _).mono (by split <;> omega) (by omega))
    · exact b'
theorem Bd.delete {k c : Nat} {A : DiskA} (b : Bd k c A) (name : List UInt8) : Bd k (c + 1) (A.delete name).2 := by
  unfold DiskA.delete
  have b' : Bd k (c + 1) A := b.mono (by omega) (by omega)
  split
  · exact b'
  · split
    · exact b'
    · exact Bd.op b'.burn ((b.burn.chg _).mono (by simp) (by omega))
theorem Bd.settled {k c : Nat} {A A' : DiskA} {i : Nat} (b : Bd k c A) (h1 : A'.files.length = A.files.length) (h2 : A'.dir0 = A.dirAt i) (h3 : A'.chgs = []) : Bd k c A' :=
  ⟨by rw [h1]; exact b.files, fun j => by unfold DiskA.dirAt; rw [h2, h3]; simp only [List.take_nil, List.foldl_nil]; exact b.dirs i, by rw [h3]; simp⟩
theorem Bd.dirSync {k c : Nat} {A : DiskA} (b : Bd k c A) : Bd k c A.dirSync.2 := by
  unfold DiskA.dirSync
  split
  · exact b
  · exact Bd.op b.burn (b.burn.settled (i := A.burn.chgs.length) rfl (DiskA.dirAt_now _).symm rfl)
theorem crashF_len (c : CrashV) : ∀ (l : Dir) (fs : List FileV) (k : Nat), (crashF c l fs k).length = fs.length
  | [], fs, k => rfl
  | p :: l, fs, k => by
    rw [crashF_cons]
    split
    · exact crashF_len c l fs k
    · rw [crashF_len c l _ (k + 1), List.length_set]
theorem Bd.crash {k c : Nat} {A : DiskA} (b : Bd k c A) (v : CrashV) : Bd k c (A.crash v) := b.settled (crashF_len v _ _ 0) rfl rfl
theorem Bd.setFuse {k c : Nat} {A : DiskA} (b : Bd k c A) (n : Int) : Bd k c (A.setFuse n) := b.same rfl rfl rfl
theorem Bd.start {k c : Nat} {A : DiskA} (b : Bd k c A) : Bd k c A.start := b.same rfl rfl rfl
theorem Bd.new (room : Int) : Bd 0 0 (newD room) := ⟨Nat.le_refl _, fun i => by simp [DiskA.dirAt, newD], Nat.le_refl _⟩
theorem logs_len (A : DiskA) : A.logs.length ≤ A.now.length := by
  unfold DiskA.logs
  rw [(sortU_perm _).length_eq]
  exact List.length_filterMap_le _ _
theorem logs_lt {A : DiskA} : ∀ n ∈ A.logs, n < 18446744073709551616 := by
  intro n hn
  unfold DiskA.logs at hn
  rw [(sortU_perm _).mem_iff] at hn
  obtain ⟨p, hp, he⟩ := List.mem_filterMap.1 hn
  exact (numB_some he).1
theorem Bd.begin {k c : Nat} {A : DiskA} (b : Bd k c A) (n : Nat) : Bd (k + 1) (c + 1) (A.begin n).2 := by
  unfold DiskA.begin
  split
  · exact (b.create _).dirSync
  · exact b.create _
theorem Bd.add {k c : Nat} {A : DiskA} (b : Bd k c A) (n seq : Nat) (ops : List OpV) : Bd k c (A.add n seq ops).2 := by
  unfold DiskA.add DiskA.app2
  split
  · split
    · exact (b.append _ _).sync _
    · exact b.append _ _
  · exact b
theorem Bd.dels {k : Nat} : ∀ (l : List Nat) {c : Nat} {A : DiskA}, Bd k c A → Bd k (c + l.length) (A.dels l).2
  | [], c, A, b => b
  | n :: l, c, A, b => by
    unfold DiskA.dels
    rw [List.length_cons]
    split
    · exact (Bd.dels l (b.delete _)).mono (Nat.le_refl _) (by omega)
    · exact (b.delete _).mono (Nat.le_refl _) (by omega)
theorem Bd.retire {k c : Nat} {A : DiskA} (b : Bd k c A) (n : Nat) : Bd k (c + k) (A.retire n).2 := by
  unfold DiskA.retire
  split
  · exact b.mono (Nat.le_refl _) (by omega)
  · refine (Bd.dels _ b).mono (Nat.le_refl _) ?_
    have h1 := logs_len A
    have h2 := b.now
    have h3 := List.length_filter_le (fun m => decide (m < n)) A.logs
    omega
/-- No name is empty. -/
theorem empty_none {A : DiskA} (ok : OkDisk A) : findD A.now [] = none := by
  cases hf : findD A.now [] with
  | none => rfl
  | some k =>
    have := ok.now.right _ (findD_some hf)
    simp [rightB] at this
end Go.M
end
section
set_option linter.unusedVariables false
namespace Go.M
structure ActV where
  do_ : Nat
  a : List UInt8
  b : List UInt8
  n : Int
  crash : CrashV
/-- What an act tells, and the disk behind it. -/
def DiskA.act (A : DiskA) (x : ActV) : (List UInt8 × Nat) × DiskA :=
  match x.do_ with
  | 0 => (([], (A.create x.a).1), (A.create x.a).2)
  | 1 => (([], (A.append x.a x.b).1), (A.append x.a x.b).2)
  | 2 => (([], (A.sync x.a).1), (A.sync x.a).2)
  | 3 => (([], (A.rename x.a x.b).1), (A.rename x.a x.b).2)
  | 4 => (([], (A.delete x.a).1), (A.delete x.a).2)
  | 5 => (([], A.dirSync.1), A.dirSync.2)
  | 6 => (([], 0), A.setFuse x.n)
  | 7 => (([], 0), A.crash x.crash)
  | 8 => (([], 0), A.start)
  | 9 => (A.read x.a, A)
  | _ => (([], 0), A)
theorem Bd.act {k c : Nat} {A : DiskA} (b : Bd k c A) (x : ActV) : Bd (k + 1) (c + 1) (A.act x).2 := by
  have b' : ∀ A', Bd k c A' → Bd (k + 1) (c + 1) A' := fun A' h => h.mono (by omega) (by omega)
  unfold DiskA.act
  split
  · exact b.create _
  · exact b' _ (b.append _ _)
  · exact b' _ (b.sync _)
  · exact b.rename _ _
  · exact (b.delete _).mono (by omega) (Nat.le_refl _)
  · exact b' _ b.dirSync
  · exact b' _ (b.setFuse _)
  · exact b' _ (b.crash _)
  · exact b' _ b.start
  · exact b' _ b
  · exact b' _ b
structure ActW where
  do_ : Nat
  n : Nat
  seq : Nat
  ops : List OpV
  act : ActV
/-- What is told of an act: the number of the log that was begun last, if one was; batches; an error's number. -/
noncomputable def DiskA.actW (A : DiskA) (at_ : Option Nat) (x : ActW) : (Option Nat × List (Nat × List OpV) × Nat) × DiskA :=
  match x.do_ with
  | 0 => ((if (A.begin x.n).1 = 0 then some x.n else at_, [], (A.begin x.n).1), (A.begin x.n).2)
  | 1 => match at_ with
    | none => ((at_, [], 2), A)
    | some m => ((at_, [], (A.add m x.seq x.ops).1), (A.add m x.seq x.ops).2)
  | 2 => ((at_, (A.replay x.n).1, (A.replay x.n).2), A)
  | 3 => ((at_, [], (A.retire x.n).1), (A.retire x.n).2)
  | 4 => ((at_, [], (A.act x.act).1.2), (A.act x.act).2)
  | _ => ((at_, [], 0), A)
theorem Bd.actW {k c : Nat} {A : DiskA} (b : Bd k c A) (at_ : Option Nat) (x : ActW) : Bd (k + 1) (c + k + 1) (A.actW at_ x).2 := by
  unfold DiskA.actW
  split
  · exact (b.begin _).mono (Nat.le_refl _) (by omega)
  · split
    · exact b.mono (by omega) (by omega)
    · exact (b.add _ _ _).mono (by omega) (by omega)
  · exact b.mono (by omega) (by omega)
  · exact (b.retire _).mono (by omega) (by omega)
  · exact (b.act _).mono (Nat.le_refl _) (by omega)
  · exact b.mono (by omega) (by omega)
/-! ### A short record -/
theorem rdF_short {n : Nat} {acc s : List UInt8} (h : s.length < 32) : rdF n acc s = none := by
  unfold rdF
  rw [dif_neg (by omega)]
theorem frm_short {r : List UInt8} (h : r.length ≤ 24) : frm 0 r = mkC (cellOf 0 r) := frm_le (by omega)
theorem rdF_one {r t : List UInt8} (h : r.length ≤ 24) : rdF 0 [] (frm 0 r ++ t) = some (r, 1) := by
  rw [frm_short h]
  have hl := mkC_len (cellOf_len 0 r)
  unfold rdF
  rw [dif_pos (by rw [List.length_append]; omega)]
  have ht : (mkC (cellOf 0 r) ++ t).take 32 = mkC (cellOf 0 r) := by rw [← hl, List.take_left]
  rw [ht, readC_mk (cellOf_may (by omega) (.inl rfl))]
  have hd : (cellOf 0 r).data = r := List.take_of_length_le h
  have hlast : (cellOf 0 r).last = true := by show decide (r.length ≤ 24) = true; simpa using h
  dsimp only
  rw [hd, hlast, if_pos ⟨rfl, by simp; omega⟩, if_pos rfl]
  rfl
theorem readF_one {r t : List UInt8} (h : r.length ≤ 24) (ht : t.length < 32) : (readF (frm 0 r ++ t)).1 = [r] := by
  have hl : (frm 0 r).length = 32 := by rw [frm_short h, mkC_len (cellOf_len 0 r)]
  rw [readF_some (rdF_one h)]
  have : (frm 0 r ++ t).drop (32 * 1) = t := by rw [show 32 * 1 = (frm 0 r).length by omega, List.drop_left]
  rw [this, readF_none (rdF_short ht)]
/-! ### The chapter's example -/
def exN : List UInt8 := [108, 111, 103, 46, 48, 48, 48, 48, 48, 48, 48, 51]
theorem exN_eq : nameB logW 3 = exN := by
  unfold nameB pad
  rw [Lib.nDigits_small (by omega), dd_small (by omega)]
  rfl
def exO : List OpV := [⟨[97], [120], false⟩]
def exS (f : FileV) (fuse : Nat) (off : Bool) : DiskA := ⟨1048576, [f], [(exN, 0)], [], off, fuse⟩
theorem exS_now (f : FileV) (fuse : Nat) (off : Bool) : (exS f fuse off).now = [(exN, 0)] := rfl
theorem exS_find (f : FileV) (fuse : Nat) (off : Bool) : findD (exS f fuse off).now exN = some 0 := by rw [exS_now]; decide
theorem exB (seq : Nat) (h : seq < 248) : batB seq exO = [UInt8.ofNat seq, 1, 0, 1, 97, 1, 120] := by
  unfold batB exO opB textB row
  rw [if_pos h]
  rfl
theorem exB_len (seq : Nat) (h : seq < 248) : (batB seq exO).length = 7 := by rw [exB seq h]; rfl
theorem exF_len (seq : Nat) (h : seq < 248) : (frm 0 (batB seq exO)).length = 32 := by
  rw [frm_short (by rw [exB_len seq h]; omega), mkC_len (cellOf_len 0 _)]
theorem exS_on (f : FileV) (fuse : Nat) : ¬ (exS f fuse false).off = true := by show ¬ false = true; decide
theorem ex_begin : (newD 1048576).begin 3 = (0, exS ⟨[], 0⟩ 0 false) := by
  unfold DiskA.begin
  rw [exN_eq]
  have h : (newD 1048576).create exN = (0, ⟨1048576, [⟨[], 0⟩], [], [⟨[], exN, 0⟩], false, 0⟩) := by
    rw [create_eq, if_neg (by show ¬ false = true; decide), if_neg (by show ¬ (findD [] exN).isSome = true; decide), if_pos (by decide)]
    rfl
  rw [h]
  rfl
theorem ex_burn (f : FileV) (fuse : Nat) (hf : fuse ≠ 1) : (exS f fuse false).burn = exS f (fuse - 1) false := by
  unfold DiskA.burn
  by_cases h0 : fuse = 0
  · subst h0; rfl
  · rw [if_neg (show ¬ (exS f fuse false).fuse = 0 from h0)]
    unfold exS
    simp only [DiskA.mk.injEq, decide_eq_false_iff_not, and_true, true_and]
    exact hf
theorem ex_check (seq : Nat) (h1 : 1 ≤ seq) (h2 : seq < 248) : checkB seq exO = 0 := by
  unfold checkB
  rw [if_neg (by decide), if_neg]
  rintro (h | h | h | h | h)
  · cases h
  · omega
  · omega
  · have : exO.length = 1 := rfl
    omega
  · revert h; decide
theorem ex_append (f : FileV) (fuse : Nat) (data : List UInt8) (hr : f.data.length + data.length ≤ 1048576) (hf : fuse ≠ 1) : (exS f fuse false).append exN data = (0, exS ⟨f.data ++ data, f.kept⟩ (fuse - 1) false) := by
  have hu : (exS f fuse false).used = f.data.length := by
    show (List.map _ _).sum = _
    rw [exS_now]
    rfl
  unfold DiskA.append
  rw [exS_find, hu, if_neg (exS_on f fuse)]
  dsimp only
  rw [if_neg (show ¬ (exS f fuse false).room < f.data.length + data.length by show ¬ 1048576 < _; omega)]
  unfold DiskA.op
  rw [ex_burn f fuse hf, if_neg (exS_on f _)]
  rfl
theorem ex_sync (f : FileV) (fuse : Nat) (hf : fuse ≠ 1) : (exS f fuse false).sync exN = (0, exS ⟨f.data, f.data.length⟩ (fuse - 1) false) := by
  unfold DiskA.sync
  rw [exS_find, if_neg (exS_on f fuse)]
  unfold DiskA.op
  dsimp only
  rw [ex_burn f fuse hf, if_neg (exS_on f _)]
  rfl
theorem ex_sync1 (f : FileV) : (exS f 1 false).sync exN = (7, exS f 0 true) := by
  unfold DiskA.sync
  rw [exS_find]
  rfl
theorem ex_add0 (f : FileV) (seq : Nat) (h1 : 1 ≤ seq) (h2 : seq < 248) (hr : f.data.length ≤ 1000) : (exS f 0 false).add 3 seq exO = (0, exS ⟨f.data ++ frm 0 (batB seq exO), (f.data ++ frm 0 (batB seq exO)).length⟩ 0 false) := by
  unfold DiskA.add DiskA.app2
  rw [if_pos (ex_check seq h1 h2), exN_eq, ex_append f 0 _ (by rw [exF_len seq h2]; omega) (by omega)]
  rw [if_pos rfl]
  exact ex_sync _ 0 (by omega)
theorem ex_add2 (f : FileV) (seq : Nat) (h1 : 1 ≤ seq) (h2 : seq < 248) (hr : f.data.length ≤ 1000) : (exS f 2 false).add 3 seq exO = (7, exS ⟨f.data ++ frm 0 (batB seq exO), f.kept⟩ 0 true) := by
  unfold DiskA.add DiskA.app2
  rw [if_pos (ex_check seq h1 h2), exN_eq, ex_append f 2 _ (by rw [exF_len seq h2]; omega) (by omega)]
  rw [if_pos rfl]
  exact ex_sync1 _
/-- How the example's disk is behind the crash. -/
def exT : FileV := ⟨frm 0 (batB 1 exO) ++ (frm 0 (batB 2 exO)).take 31, (frm 0 (batB 1 exO) ++ (frm 0 (batB 2 exO)).take 31).length⟩
theorem ex_crash : (exS ⟨frm 0 (batB 1 exO) ++ frm 0 (batB 2 exO), (frm 0 (batB 1 exO)).length⟩ 0 true).crash ⟨0, [31], []⟩ = exS exT 0 true := by
  have l1 := exF_len 1 (by omega)
  have l2 := exF_len 2 (by omega)
  generalize hf1 : frm 0 (batB 1 exO) = f1 at l1
  generalize hf2 : frm 0 (batB 2 exO) = f2 at l2
  unfold DiskA.crash
  have hd : (exS ⟨f1 ++ f2, f1.length⟩ 0 true).dirAt (min (Int.toNat (CrashV.names ⟨0, [31], []⟩)) (exS ⟨f1 ++ f2, f1.length⟩ 0 true).chgs.length) = [(exN, 0)] := rfl
  rw [hd]
  have hc : crashF ⟨0, [31], []⟩ [(exN, 0)] (exS ⟨f1 ++ f2, f1.length⟩ 0 true).files 0 = [exT] := by
    rw [crashF_cons]
    have e : fileD (exS ⟨f1 ++ f2, f1.length⟩ 0 true).files (exN, 0).2 = ⟨f1 ++ f2, f1.length⟩ := rfl
    rw [e]
    have hne : ¬ (f1.length = (f1 ++ f2).length) := by rw [List.length_append]; omega
    rw [if_neg hne]
    show [leftF ⟨f1 ++ f2, f1.length⟩ ⟨0, [31], []⟩ 0] = [exT]
    have hk : (f1 ++ f2).take f1.length ++ left ((f1 ++ f2).drop f1.length) ⟨0, [31], []⟩ 0 = f1 ++ f2.take 31 := by
      rw [List.take_left, List.drop_left]
      unfold left
      simp only [List.getElem?_cons_zero, List.getElem?_nil]
      rw [l2]
      rfl
    unfold leftF exT
    rw [hf1, hf2]
    simp only [hk]
  simp only [hc]
  rfl
theorem ex_logs (f : FileV) (fuse : Nat) (off : Bool) : (exS f fuse off).logs = [3] := by
  unfold DiskA.logs logsD
  rw [exS_now, ← exN_eq]
  simp only [List.filterMap_cons, List.filterMap_nil, numB_name (word := logW) (n := 3) (by omega)]
  exact (sortU_eq (List.Perm.refl _) (by simp)).symm
theorem ex_replay : (exS exT 0 false).replay 0 = ([(1, exO)], 0) := by
  unfold DiskA.replay
  have hr : (exS exT 0 false).read exN = (exT.data, 0) := by
    unfold DiskA.read
    rw [exS_find]
    rfl
  have hb : batsB exT.data = [(1, exO)] := by
    unfold batsB exT
    rw [readF_one (by rw [exB_len 1 (by omega)]; omega) (by rw [List.length_take]; omega)]
    unfold batsR
    rw [bat_decB (ex_check 1 (by omega) (by omega))]
    rfl
  rw [ex_logs]
  show (if _ then _ else _) = _
  rw [if_neg (by decide)]
  have hfil : [3].filter (fun n : Nat => decide (0 ≤ n)) = [3] := by decide
  rw [hfil]
  simp only [List.flatMap_cons, List.flatMap_nil, List.append_nil, exN_eq, hr, hb]
end Go.M
end
