/- Layer 7: a log; which there are. Layer 7: what is done with each log. Layer 7: what logs have. -/
import Derived.Test.YtemfgkhholobgaaGreatDoorSK
import Derived.Test.YtemfgkhholobgaaGreatDoorSD
import Derived.Test.YtemfgkhholobgaaGreatDoorSE
import Derived.Test.YtemfgkhholobgaaGreatDoorSU
import Derived.Test.YtemfgkhholobgaaGreatDoorMB
section
set_option maxRecDepth 100000
set_option linter.unusedVariables false
namespace Go.Proofs.W
open Go Go.Shal Go.Proofs Go.M
theorem logs_spec {B d : Nat} {A : DiskA} {h : Heap} {Q : Sl → PP} (P : PD B d A h) (ht : Tabs h) (hn : A.now.length ≤ 1000000)
    (hQ : ∀ s h', Own h.size 30 1 enc64 h' s A.logs → Ext h h' → Q s h') : wal_Logs.C (some ⟨d, 0, none⟩) Q h := by
  apply wal_Logs.ok
  unfold wal_Logs.F
  obtain ⟨fb, fs, mn, ml, ch, p, ok⟩ := P
  refine list_spec ⟨fb, fs, mn, ml, ch, p, ok⟩ hn fun l1 h1 o1 u1 => ?_
  obtain ⟨names, hnm⟩ : ∃ names : List Bytes, A.now.map (·.1) = names := ⟨_, rfl⟩
  have hnml : names.length = A.now.length := by rw [← hnm, List.length_map]
  rw [hnm] at o1
  have hl1 := o1.len
  refine ⟨fun s i h' => ∃ k : Nat, k ≤ A.now.length ∧ i = (k : Int) ∧ Own h1.size 30 1 enc64 h' s ((names.take k).filterMap (numB logW)) ∧ Up h1.size h1 h', fun _ i _ => A.now.length - i.toNat, ⟨0, by omega, rfl, Own.nil _ _ _ _ _, Up.refl _ _⟩, ?_⟩
  rintro ⟨s, i, _⟩ h2 ⟨k, hk, hi, o2, u2⟩
  dsimp only at hi o2 u2
  subst hi
  dsimp only [unc]
  have hz := u1.size
  refine ifB_of (fun hc => ?_) (fun hc => ?_)
  · have hk1 : k < A.now.length := by have := of_decide_eq_true hc; omega
    have hkm : k < names.length := by omega
    have hget := List.getElem?_eq_getElem hkm
    have hle : ((names.take k).filterMap (numB logW)).length ≤ k := by
      have h1 := List.length_filterMap_le (numB logW) (names.take k)
      rw [List.length_take] at h1
      omega
    have hnl : names[k].length ≤ 1000000 := by
      have hr := ok.now.right A.now[k] (List.getElem_mem hk1)
      subst hnm
      unfold rightB at hr
      simp only [Bool.and_eq_true, decide_eq_true_eq] at hr
      rw [List.getElem_map]
      omega
    have s2 : Sees 1 (fun l => [encS l]) h2 l1 names := (Own.sees (enc := fun l => [encS l]) (k := 1) (fun _ => rfl) o1).ext u2.ext
    have next : ∀ (s' : Sl) (h' : Heap), Own h1.size 30 1 enc64 h' s' ((names.take (k + 1)).filterMap (numB logW)) → Up h1.size h1 h' →
        (∃ k' : Nat, k' ≤ A.now.length ∧ IntKind.wrap .i64 ((k : Int) + 1) = (k' : Int) ∧ Own h1.size 30 1 enc64 h' s' ((names.take k').filterMap (numB logW)) ∧ Up h1.size h1 h') ∧ A.now.length - (IntKind.wrap .i64 ((k : Int) + 1)).toNat < A.now.length - ((k : Nat) : Int).toNat := by
      intro s' h' o' u'
      rw [wi (by omega) (by omega)]
      exact ⟨⟨k + 1, by omega, rfl, o', u'⟩, by omega⟩
    have etake : (names.take (k + 1)).filterMap (numB logW) = (names.take k).filterMap (numB logW) ++ (match numB logW names[k] with
        | some n => [n]
        | none => []) := by
      rw [List.take_succ_eq_append_getElem hkm, List.filterMap_append]
      congr 1
      cases hx : numB logW names[k] with
      | none => simp only [List.filterMap_cons, hx, List.filterMap_nil]
      | some n => simp only [List.filterMap_cons, hx, List.filterMap_nil]
    refine join_1 (s := .slice) (fun s' h' => Own h1.size 30 1 enc64 h' s' ((names.take (k + 1)).filterMap (numB logW)) ∧ Up h1.size h1 h') ?_ ?_
    · refine Sees.idx1 (enc := encS) s2 rfl hget fun a ha => ?_
      refine ld_of (s := .str) (x := names[k]) ha ?_
      refine number_spec (word := logW) (ht.ext (u1.trans u2.ext)) (by show 3 ≤ 1000; omega) hnl fun h3 u3 => ?_
      rw [etake]
      cases hx : numB logW names[k] with
      | none =>
        dsimp only
        rw [ifB_of_false rfl]
        rw [List.append_nil]
        exact ⟨o2.ext u3, u2.trans (u3.up _)⟩
      | some n =>
        dsimp only
        rw [ifB_of_true rfl]
        refine app_one (enc := enc64) (x := n) (fun _ => rfl) (fun x v hv => by simp at hv; subst hv; rfl) rfl rfl (o2.ext u3) (by have := u2.size; have := u3.size; omega) (by omega) fun s4 h4 o4 b4 _ => ?_
        exact ⟨o4, (u2.trans (u3.up _)).trans (b4.up o2.low)⟩
    · rintro s' h' ⟨o', u'⟩
      exact next s' h' o' u'
  · have hk1 : k = A.now.length := by have := of_decide_eq_false hc; omega
    subst hk1
    have he : (names.take A.now.length).filterMap (numB logW) = logsD A.now := by
      rw [List.take_of_length_le (by omega), ← hnm, List.filterMap_map]
      rfl
    rw [he] at o2
    have hlen : (logsD A.now).length ≤ A.now.length := List.length_filterMap_le _ _
    refine sort_spec o2 (by omega) fun h3 o3 b3 => ?_
    exact hQ s h3 (o3.mono hz) (u1.trans (u2.trans (b3.up o2.low)).ext)
/-- Block b is a log: of number n, of disk d. -/
def LogAt (b n d : Nat) (h : Heap) : Prop := Shal.Loc b 151 [.int .u64 (n : Int), .func (.func 27) #[.pointer (some ⟨d, 0, none⟩)] #[], .func (.func 54) #[.pointer (some ⟨d, 0, none⟩)] #[]] h
theorem LogAt.keep {b n d B : Nat} {M : Obj → Bool} {h h' : Heap} (l : LogAt b n d h) (k : Keep B M h h') (hM : ∀ cs, M (.cells cs 151 (0, 0)) = false) : LogAt b n d h' := Shal.Loc.keep l k (.inr (hM _))
/-- The log that was begun last, if one was. -/
def LogIs (p : Option Addr) (at_ : Option Nat) (d : Nat) (h : Heap) : Prop :=
  match at_ with
  | none => p = none
  | some n => ∃ b, p = some ⟨b, 0, none⟩ ∧ LogAt b n d h ∧ n < 18446744073709551616
theorem LogIs.keep {p : Option Addr} {at_ : Option Nat} {d B : Nat} {M : Obj → Bool} {h h' : Heap} (l : LogIs p at_ d h) (k : Keep B M h h') (hM : ∀ cs, M (.cells cs 151 (0, 0)) = false) : LogIs p at_ d h' := by
  unfold LogIs at *
  cases at_ with
  | none => exact l
  | some n =>
    obtain ⟨b, h1, h2, h3⟩ := l
    exact ⟨b, h1, h2.keep k hM, h3⟩
theorem begin_eq (A : DiskA) (n : Nat) : A.begin n = if (A.create (nameB logW n)).1 = 0 then (A.create (nameB logW n)).2.dirSync else A.create (nameB logW n) := rfl
theorem wbegin_spec {B d n : Nat} {A : DiskA} {h : Heap} {Q : Option Addr → Int → PP} (P : PD B d A h) (ht : Tabs h) (hB : B ≤ h.size) (h9 : 4 ≤ B) (hn : n < 18446744073709551616) (h1 : A.files.length < 1000000000) (h2 : A.chgs.length < 1000000000)
    (hQ : ∀ p h', PD B d (A.begin n).2 h' → Keep B MP h h' → (if (A.begin n).1 = 0 then LogIs p (some n) d h' else p = none) → Q p ((A.begin n).1 : Int) h') : wal_Begin.C (some ⟨d, 0, none⟩) (n : Int) Q h := by
  apply wal_Begin.ok
  unfold wal_Begin.F
  refine name_spec (word := logW) ht hn (by show 3 ≤ 1000; omega) fun h3 u3 => ?_
  have hz3 := u3.size
  rw [begin_eq] at hQ
  refine create_spec (P.ext u3) (by omega) h1 h2 fun h4 P4 k4 => ?_
  generalize A.create (nameB logW n) = r at P4 hQ
  obtain ⟨e, A4⟩ := r
  dsimp only at P4 hQ ⊢
  have k04 : Keep B MP h h4 := (u3.keep _ _).trans k4
  refine ifB_of (fun hc => ?_) (fun hc => ?_)
  · have he : ¬ e = 0 := by intro h0; rw [h0] at hc; simp at hc
    rw [if_neg he] at hQ
    dsimp only at hQ
    exact hQ none h4 P4 k04 (by rw [if_neg he])
  · have he : e = 0 := by have : (e : Int) = 0 := by simpa using hc
                          omega
    rw [if_pos he] at hQ
    have hz4 := k4.size
    refine dirSync_spec P4 (by omega) fun h5 P5 k5 => ?_
    generalize A4.dirSync = r at P5 hQ
    obtain ⟨e5, A5⟩ := r
    dsimp only at P5 hQ ⊢
    have k05 := k04.trans k5
    refine ifB_of (fun hc => ?_) (fun hc => ?_)
    · have he : ¬ e5 = 0 := by intro h0; rw [h0] at hc; simp at hc
      exact hQ none h5 P5 k05 (by rw [if_neg he])
    · have he : e5 = 0 := by have : (e5 : Int) = 0 := by simpa using hc
                             omega
      subst he
      refine newP_loc fun h6 u6 z6 l6 => ?_
      refine hQ _ h6 (P5.ext u6) (k05.trans (u6.keep _ _)) ?_
      rw [if_pos rfl]
      exact ⟨h5.size, rfl, l6, hn⟩
theorem none_log {p : Option Addr} {at_ : Option Nat} {d : Nat} {h : Heap} {Q : Bool → PP} (l : LogIs p at_ d h) (hQ : Q at_.isNone h) : wal_Log_none.C p Q h := by
  apply wal_Log_none.ok
  unfold wal_Log_none.F
  refine ⟨.inr rfl, ?_⟩
  cases at_ with
  | none =>
    have hp : p = none := l
    subst hp
    rw [ifB_of_true (by simp)]
    exact hQ
  | some n =>
    obtain ⟨b, rfl, hl, _⟩ := l
    rw [ifB_of_false (by simp), nilP_some]
    refine ld_loc (s := .any) (x := .func (.func 27) #[.pointer (some ⟨d, 0, none⟩)] #[]) (n := 1) hl rfl ?_
    exact ⟨false, rfl, hQ⟩
theorem num_log {p : Option Addr} {at_ : Option Nat} {d : Nat} {h : Heap} {Q : Int → PP} (l : LogIs p at_ d h) (hQ : Q ((at_.getD 0 : Nat) : Int) h) : wal_Log_N.C p Q h := by
  apply wal_Log_N.ok
  unfold wal_Log_N.F
  refine none_log l ?_
  cases at_ with
  | none => exact hQ
  | some n =>
    obtain ⟨b, rfl, hl, _⟩ := l
    show ifB false _ _ h
    rw [ifB_of_false rfl, nilP_some]
    exact ld_loc (s := .int .u64) (x := (n : Int)) (n := 0) hl rfl hQ
theorem frm_le_len {r : Bytes} (h : r.length ≤ 10000) : (frm 0 r).length ≤ 100000 := by
  rw [frm_len]
  unfold nCells
  split <;> omega
theorem wadd_spec {B d n seq : Nat} {p : Option Addr} {A : DiskA} {s : Sl} {ops : List OpV} {h : Heap} {Q : Int → PP} (P : PD B d A h) (ht : Tabs h) (hB : B ≤ h.size) (h9 : 4 ≤ B) (hl : LogIs p (some n) d h) (hs : Sees 3 encO h s ops) (hol : ops.length < 4611686018427387904) (hseq : seq < 18446744073709551616) (hnow : A.now.length ≤ 1000000000)
    (hQ : ∀ h', PD B d (A.add n seq ops).2 h' → Keep B MP h h' → Q ((A.add n seq ops).1 : Int) h') : wal_Log_Add.C p (seq : Int) s Q h := by
  apply wal_Log_Add.ok
  unfold wal_Log_Add.F
  refine newP_loc fun h1 u1 z1 l1 => ?_
  have hl1 := hl.keep (u1.keep 0 none_) (fun _ => rfl)
  refine none_log hl1 ?_
  show ifB false _ _ h1
  rw [ifB_of_false rfl]
  refine lds_loc (l := [.int .u64, .slice]) ((seq : Int), s, ()) l1 ?_
  dsimp only [unc]
  unfold DiskA.add at hQ
  refine encode_spec hseq (hs.ext u1) hol fun h2 u2 => ?_
  have u02 := u1.trans u2
  by_cases hck : checkB seq ops = 0
  · rw [if_pos hck] at hQ ⊢
    rw [ifB_of_false (by rfl)]
    have hbl := batB_len hseq hck
    generalize batB seq ops = r at hQ hbl ⊢
    refine newP_sees (enc := fun l => [encS l]) (xs := [r]) (k := 1) (fun _ => rfl) rfl rfl fun h3 u3 z3 s3 => ?_
    have u03 := u02.trans u3
    refine fwrite_spec (ht.ext u03) s3 (by omega) fun h4 u4 => ?_
    have u04 := u03.trans u4
    rw [ifB_of_false (by rfl)]
    have hl4 := hl.keep (u04.keep 0 none_) (fun _ => rfl)
    obtain ⟨b, rfl, hlb, hn⟩ := hl4
    have hfl := frm_le_len hbl
    generalize frm 0 r = data at hQ hfl ⊢
    rw [nilP_some]
    refine ld_loc (s := .int .u64) (x := (n : Int)) (n := 0) hlb rfl ?_
    refine name_spec (word := logW) (ht.ext u04) hn (by show 3 ≤ 1000; omega) fun h5 u5 => ?_
    have u05 := u04.trans u5
    have hlb5 : LogAt b n d h5 := Shal.Loc.ext hlb u5
    rw [nilP_some]
    refine ld_loc (s := .any) (x := .func (.func 27) #[.pointer (some ⟨d, 0, none⟩)] #[]) (n := 1) hlb5 rfl ?_
    have hz5 := u05.size
    unfold DiskA.app2 at hQ
    refine ⟨27, _, _, Tryz.f27, rfl, Tryz.func27, by kernel_rfl, ?_⟩
    refine append_spec (name := nameB logW n) (data := data) (P.ext u05) (by omega) hnow (by omega) fun h6 P6 k6 => ?_
    generalize A.append (nameB logW n) data = t at P6 hQ ⊢
    obtain ⟨e6, A6⟩ := t
    dsimp only at P6 hQ ⊢
    have k06 : Keep B MP h h6 := (u05.keep _ _).trans k6
    refine ifB_of (fun hc => ?_) (fun hc => ?_)
    · have he : ¬ e6 = 0 := by intro h0; rw [h0] at hc; simp at hc
      rw [if_neg he] at hQ
      exact hQ h6 P6 k06
    · have he : e6 = 0 := by have : (e6 : Int) = 0 := by simpa using hc
                             omega
      rw [if_pos he] at hQ
      have hlb6 : LogAt b n d h6 := hlb5.keep k6 (fun _ => rfl)
      rw [nilP_some]
      refine ld_loc (s := .any) (x := .func (.func 54) #[.pointer (some ⟨d, 0, none⟩)] #[]) (n := 2) hlb6 rfl ?_
      refine ⟨54, _, _, Tryz.f54, rfl, Tryz.func54, by kernel_rfl, ?_⟩
      refine sync_spec (name := nameB logW n) P6 fun h7 P7 k7 => ?_
      exact hQ h7 P7 (k06.trans k7)
  · rw [if_neg hck] at hQ ⊢
    rw [ifB_of_true (by simpa using hck)]
    exact hQ h2 (P.ext u02) (u02.keep _ _)
end Go.Proofs.W
end
section
set_option maxRecDepth 100000
set_option linter.unusedVariables false
namespace Go.Proofs.W
open Go Go.Shal Go.Proofs Go.M
theorem log_found {A : DiskA} (ok : OkDisk A) {n : Nat} (h : n ∈ A.logs) : ∃ k, findD A.now (nameB logW n) = some k := by
  unfold DiskA.logs at h
  rw [(sortU_perm _).mem_iff] at h
  obtain ⟨p, hp, he⟩ := List.mem_filterMap.1 h
  rw [(numB_some he).2]
  exact ⟨p.2, findD_of ok.now hp⟩
theorem log_read {A : DiskA} (ok : OkDisk A) (hon : A.off = false) {n : Nat} (h : n ∈ A.logs) : (A.read (nameB logW n)).2 = 0 := by
  obtain ⟨k, hk⟩ := log_found ok h
  unfold DiskA.read
  rw [hon, if_neg (by decide), hk]
theorem read_len {A : DiskA} (ok : OkDisk A) (name : Bytes) : (A.read name).1.length ≤ 1048576 := by
  unfold DiskA.read
  split
  · simp
  · split
    · simp
    · rename_i k hk
      exact (ok.fileD (ok.now.file _ (findD_some hk))).2
/-- What the deeds may turn. -/
def MW : Obj → Bool := fun o => MP o || rowsOf [38, 31] o
theorem MW_30 : ∀ cs, MW (.cells cs 30 (0, 0)) = false := fun _ => rfl
theorem each_spec {B d : Nat} {A : DiskA} {such do_ : Value} {h : Heap} {Q : Int → PP} (P : PD B d A h) (ht : Tabs h) (hn : A.now.length ≤ 1000000) (p : Nat → Bool) (inv : List Nat → PP) (fin : List Nat → Int → PP)
    (hi : inv [] h) (hext : ∀ l h1 h2, inv l h1 → Ext h1 h2 → inv l h2) (htab : ∀ l h1, inv l h1 → Tabs h1)
    (hsuch : ∀ l (n : Nat) h1 K, n < 18446744073709551616 → inv l h1 → (∀ h2, Ext h1 h2 → K (p n) h2) → callV Tryz.prog such #[.int .u64 (n : Int)] [.sc .bool] K h1)
    (hdo : ∀ l1 n l2 h1 K, A.off = false → A.logs.filter p = l1 ++ n :: l2 → n < 18446744073709551616 → inv l1 h1 → (∀ e h2, (e = 0 → inv (l1 ++ [n]) h2) → (e ≠ 0 → fin (l1 ++ [n]) e h2) → Keep 0 MW h1 h2 → K e h2) →
      callV Tryz.prog do_ #[.string (bs (nameB logW n))] [.sc (.int .i64)] K h1)
    (hoff : A.off = true → Q 7 h) (hQ0 : A.off = false → ∀ h', inv (A.logs.filter p) h' → Q 0 h')
    (hQ1 : A.off = false → ∀ l1 n l2 e h', A.logs.filter p = l1 ++ n :: l2 → e ≠ 0 → fin (l1 ++ [n]) e h' → Q e h') : wal_each.C (some ⟨d, 0, none⟩) such do_ Q h := by
  apply wal_each.ok
  unfold wal_each.F
  have P0 := P
  obtain ⟨fb, fs, mn, ml, ch, pp, ok⟩ := P0
  refine read_spec P ?_
  unfold DiskA.read
  cases ho : A.off with
  | true =>
    rw [if_pos rfl]
    dsimp only
    rw [ifB_of_true (by rfl)]
    exact hoff ho
  | false =>
    rw [if_neg (by decide), empty_none ok]
    dsimp only
    rw [ifB_of_false (by rfl)]
    refine logs_spec P ht hn fun ls h1 o1 u1 => ?_
    have hll := o1.len
    have hlen := logs_len A
    have hi1 := hext _ _ _ hi u1
    refine ⟨fun _ i h' => ∃ (k : Nat) (l1 : List Nat), i = (k : Int) ∧ k ≤ A.logs.length ∧ inv l1 h' ∧ A.logs.filter p = l1 ++ (A.logs.drop k).filter p ∧ Own h.size 30 1 enc64 h' ls A.logs, fun _ i _ => A.logs.length - i.toNat, ⟨0, [], rfl, by omega, hi1, by simp, o1⟩, ?_⟩
    rintro ⟨_, i, _⟩ h2 ⟨k, l1, hik, hk, hi2, hfl, o2⟩
    dsimp only at hik hi2 o2
    subst hik
    dsimp only [unc]
    refine ifB_of (fun hc => ?_) (fun hc => ?_)
    · have hk1 : k < A.logs.length := by have := of_decide_eq_true hc; omega
      have hget := List.getElem?_eq_getElem hk1
      have hdrop : A.logs.drop k = A.logs[k] :: A.logs.drop (k + 1) := List.drop_eq_getElem_cons hk1
      have hn64 := logs_lt A.logs[k] (List.getElem_mem hk1)
      generalize A.logs[k] = n at hget hdrop hn64
      rw [hdrop] at hfl
      refine ⟨fun _ h' => ∃ l1 : List Nat, inv l1 h' ∧ A.logs.filter p = l1 ++ (A.logs.drop (k + 1)).filter p ∧ Own h.size 30 1 enc64 h' ls A.logs, ?_, ?_⟩
      · refine Sees.idx (enc := enc64) (fun _ => rfl) (Own.sees (enc := enc64) (k := 1) (fun _ => rfl) o2) rfl hget fun a ha => ?_
        refine ld_of (s := .int .u64) (x := (n : Int)) (ha 0 _ rfl) ?_
        refine hsuch l1 n h2 _ hn64 hi2 fun h3 u3 => ?_
        have hi3 := hext _ _ _ hi2 u3
        have o3 := o2.ext u3
        cases hp : p n with
        | false =>
          rw [List.filter_cons_of_neg (by rw [hp]; decide)] at hfl
          rw [ifB_of_true (by rfl)]
          exact ⟨l1, hi3, hfl, o3⟩
        | true =>
          rw [List.filter_cons_of_pos hp] at hfl
          rw [ifB_of_false (by rfl)]
          refine name_spec (word := logW) (htab _ _ hi3) hn64 (by show 3 ≤ 1000; omega) fun h4 u4 => ?_
          refine hdo l1 n _ h4 _ ho hfl hn64 (hext _ _ _ hi3 u4) fun e h5 hz hnz k5 => ?_
          refine ifB_of (fun hc => ?_) (fun hc => ?_)
          · have he : e ≠ 0 := by intro h0; rw [h0] at hc; simp at hc
            exact hQ1 ho l1 n _ e h5 hfl he (hnz he)
          · have he : e = 0 := by simpa using hc
            refine ⟨l1 ++ [n], hz he, ?_, (o3.ext u4).keepM k5 MW_30⟩
            rw [hfl, List.append_assoc, List.singleton_append]
      · rintro ⟨_, _⟩ h3 ⟨l1', hi3, hfl3, o3⟩
        dsimp only [unc]
        rw [wi (by omega) (by omega)]
        exact ⟨⟨k + 1, l1', rfl, by omega, hi3, hfl3, o3⟩, (show A.logs.length - ((k : Int) + 1).toNat < A.logs.length - ((k : Nat) : Int).toNat by omega)⟩
    · have hk1 : k = A.logs.length := by have := of_decide_eq_false hc; omega
      subst hk1
      rw [List.drop_length, List.filter_nil, List.append_nil] at hfl
      rw [← hfl] at hi2
      exact hQ0 ho h2 hi2
/-! ### Retire -/
theorem dels_append : ∀ (l1 l2 : List Nat) (A A1 : DiskA), A.dels l1 = (0, A1) → A.dels (l1 ++ l2) = A1.dels l2
  | [], l2, A, A1, h => by cases h; rfl
  | n :: l1, l2, A, A1, h => by
    unfold DiskA.dels at h
    rw [List.cons_append]
    show (if (A.delete (nameB logW n)).1 = 0 then (A.delete (nameB logW n)).2.dels (l1 ++ l2) else A.delete (nameB logW n)) = _
    split at h
    · rename_i h0
      rw [if_pos h0]
      exact dels_append l1 l2 _ A1 h
    · rename_i h0
      rw [h] at h0
      exact absurd rfl h0
theorem dels_stop (l1 : List Nat) (n : Nat) (l2 : List Nat) (A A1 A2 : DiskA) (e : Nat) (h : A.dels l1 = (0, A1)) (hd : A1.delete (nameB logW n) = (e, A2)) (he : e ≠ 0) : A.dels (l1 ++ n :: l2) = (e, A2) := by
  rw [dels_append l1 _ A A1 h]
  unfold DiskA.dels
  rw [hd, if_neg he]
theorem dels_on (l1 : List Nat) (n : Nat) (A A1 A2 : DiskA) (h : A.dels l1 = (0, A1)) (hd : A1.delete (nameB logW n) = (0, A2)) : A.dels (l1 ++ [n]) = (0, A2) := by
  rw [dels_append l1 _ A A1 h]
  unfold DiskA.dels
  rw [hd, if_pos rfl]
  rfl
theorem wretire_spec {B d n : Nat} {A : DiskA} {h : Heap} {Q : Int → PP} (P : PD B d A h) (ht : Tabs h) (hB : B ≤ h.size) (h9 : 4 ≤ B) (hn : n < 18446744073709551616) (hnow : A.now.length ≤ 1000000) (hch : A.chgs.length < 100000000)
    (hQ : ∀ h', PD B d (A.retire n).2 h' → Keep B MP h h' → Q ((A.retire n).1 : Int) h') : wal_Retire.C (some ⟨d, 0, none⟩) (n : Int) Q h := by
  apply wal_Retire.ok
  unfold wal_Retire.F
  refine newP_loc fun h1 u1 z1 l1 => ?_
  unfold DiskA.retire at hQ
  refine each_spec (P.ext u1) (ht.ext u1) hnow (fun m => decide (m < n))
    (fun l h' => ∃ A1, A.dels l = (0, A1) ∧ PD B d A1 h' ∧ A1.chgs.length ≤ A.chgs.length + l.length ∧ Keep B MP h h' ∧ Shal.Loc h.size 30 [.int .u64 (n : Int)] h')
    (fun l e h' => ∃ A1 e', e = ((e' : Nat) : Int) ∧ (∀ l2, A.dels (l ++ l2) = (e', A1)) ∧ PD B d A1 h' ∧ Keep B MP h h')
    ⟨A, rfl, P.ext u1, by simp, u1.keep _ _, l1⟩ (fun l h2 h3 ⟨A1, a1, a2, a3, a4, a5⟩ u => ⟨A1, a1, a2.ext u, a3, a4.trans (u.keep _ _), a5.ext u⟩) (fun l h2 ⟨A1, a1, a2, a3, a4, a5⟩ => ht.keep h9 a4) ?_ ?_ ?_ ?_ ?_
  · rintro l m h2 K hm ⟨A1, a1, a2, a3, a4, a5⟩ hK
    refine ⟨148, #[], #[.pointer (some ⟨h.size, 0, none⟩)], Tryz.f148, rfl, Tryz.func148, by kernel_rfl, ?_⟩
    show wal_Retire_1.C (m : Int) ⟨h.size, 0, none⟩ K h2
    apply wal_Retire_1.ok
    unfold wal_Retire_1.F
    refine ld_loc (n := 0) (s := .int .u64) (x := (n : Int)) a5 rfl ?_
    have e : decide ((m : Int) < (n : Int)) = decide (m < n) := by rw [decide_eq_decide]; omega
    rw [e]
    exact hK h2 (Ext.refl _)
  · rintro l1' m l2 h2 K hon hfl hm ⟨A1, a1, a2, a3, a4, a5⟩ hK
    have hl1 : l1'.length ≤ A.now.length := by
      have e1 := congrArg List.length hfl
      have e2 := List.length_filter_le (fun m => decide (m < n)) A.logs
      have e3 := logs_len A
      rw [List.length_append] at e1
      omega
    refine ⟨149, #[.pointer (some ⟨d, 0, none⟩)], #[], Tryz.f149, rfl, Tryz.func149, by kernel_rfl, ?_⟩
    have hz := a4.size
    refine delete_spec (name := nameB logW m) a2 (by omega) (by omega) fun h3 P3 k3 => ?_
    have hd : A1.delete (nameB logW m) = ((A1.delete (nameB logW m)).1, (A1.delete (nameB logW m)).2) := rfl
    have hbd : (A1.delete (nameB logW m)).2.chgs.length ≤ A1.chgs.length + 1 := by
      unfold DiskA.delete
      split
      · simp
      · split
        · simp
        · unfold DiskA.op
          obtain ⟨_, _, _, b4⟩ := burn_room A1
          split
          · rw [b4]; omega
          · show (A1.burn.chgs ++ [_]).length ≤ _
            rw [b4, List.length_append]
            simp
    generalize (A1.delete (nameB logW m)).1 = e at hd P3
    generalize (A1.delete (nameB logW m)).2 = A2 at hd P3 hbd
    refine hK e h3 (fun he => ?_) (fun he => ?_) ?_
    · have he : e = 0 := by omega
      subst he
      exact ⟨A2, dels_on l1' m A A1 A2 a1 hd, P3, by rw [List.length_append]; simp; omega, a4.trans k3, Shal.Loc.keep a5 k3 (.inr rfl)⟩
    · have he : e ≠ 0 := by intro h0; rw [h0] at he; exact he rfl
      exact ⟨A2, e, rfl, fun l2 => by rw [List.append_assoc, List.singleton_append]; exact dels_stop l1' m l2 A A1 A2 e a1 hd he, P3, a4.trans k3⟩
    · exact ⟨k3.size, fun b o hb hm => k3.at_ b o hb (by
        rcases hm with hm | hm
        · omega
        · right
          unfold MW at hm
          rw [Bool.or_eq_false_iff] at hm
          exact hm.1)⟩
  · intro hoff
    rw [hoff, if_pos rfl] at hQ
    exact hQ h1 (P.ext u1) (u1.keep _ _)
  · intro hon h' ⟨A1, a1, a2, a3, a4, a5⟩
    rw [hon, if_neg (by decide), a1] at hQ
    exact hQ h' a2 a4
  · rintro hon l1' m l2 e h' hfl he ⟨A1, e', rfl, a1, a2, a3⟩
    have := a1 l2
    rw [List.append_assoc, List.singleton_append] at this
    rw [hon, if_neg (by decide), hfl, this] at hQ
    exact hQ h' a2 a3
end Go.Proofs.W
end
section
set_option maxRecDepth 100000
set_option linter.unusedVariables false
namespace Go.Proofs.W
open Go Go.Shal Go.Proofs Go.M
/-- What a replay turns. -/
def MB : Obj → Bool := rowsOf [38, 31]
/-- A row of batches of one's own. -/
def Bts (T B : Nat) (h : Heap) (s : Sl) (bss : List (Nat × List OpV)) : Prop :=
  ∃ raw : List (Nat × Sl), Own B T 2 encBt h s raw ∧ raw.length = bss.length ∧ ∀ (i : Nat) (r : Nat × Sl) (b : Nat × List OpV), raw[i]? = some r → bss[i]? = some b → r.1 = b.1 ∧ Own B 124 3 encO h r.2 b.2 ∧ b.2.length ≤ 16
theorem Bts.nil (T B : Nat) (h : Heap) : Bts T B h ⟨none, 0, 0⟩ [] := ⟨[], Own.nil _ _ _ _ _, rfl, fun i r b hr => by simp at hr⟩
theorem Bts.keep {T B B' : Nat} {M : Obj → Bool} {h h' : Heap} {s : Sl} {bss : List (Nat × List OpV)} (b : Bts T B h s bss) (k : Keep B' M h h') (h1 : ∀ cs, M (.cells cs T (0, 0)) = false) (h2 : ∀ cs, M (.cells cs 124 (0, 0)) = false) : Bts T B h' s bss :=
  let ⟨raw, a1, a2, a3⟩ := b
  ⟨raw, a1.keepM k h1, a2, fun i r x hr hx => let ⟨c1, c2, c3⟩ := a3 i r x hr hx; ⟨c1, c2.keepM k h2, c3⟩⟩
theorem Bts.ext {T B : Nat} {h h' : Heap} {s : Sl} {bss : List (Nat × List OpV)} (b : Bts T B h s bss) (u : Ext h h') : Bts T B h' s bss := b.keep (u.keep 0 none_) (fun _ => rfl) fun _ => rfl
theorem Bts.bats {T B : Nat} {h : Heap} {s : Sl} {bss : List (Nat × List OpV)} (b : Bts T B h s bss) : ∃ raw, Bats h s bss raw :=
  let ⟨raw, a1, a2, a3⟩ := b
  ⟨raw, ⟨Own.sees (enc := encBt) encBt_len a1, a2, fun i r x hr hx => let ⟨c1, c2, c3⟩ := a3 i r x hr hx; ⟨c1, Own.sees (enc := encO) encO_len c2, by omega⟩⟩⟩
theorem Bts.len {T B : Nat} {h : Heap} {s : Sl} {bss : List (Nat × List OpV)} (b : Bts T B h s bss) : s.len = bss.length := let ⟨raw, a1, a2, a3⟩ := b; by rw [a1.len, a2]
/-- One more batch. -/
theorem Bts.app {T B seq : Nat} {ops : List OpV} {t s : Sl} {h : Heap} {bss : List (Nat × List OpV)} {cs : List Value} {z : Array Value} {K : Option Addr → Nat → Nat → PP} (b : Bts T B h s bss) (hT : T ≠ 124) (ho : Own B 124 3 encO h t ops) (h16 : ops.length ≤ 16) (hB : B ≤ h.size) (hbl : bss.length ≤ 100000000)
    (hcs : cs = [.int .u64 (seq : Int), .slice t.p t.len t.cap]) (hz : z.size = 2)
    (hK : ∀ s' h', Bts T B h' s' (bss ++ [(seq, ops)]) → But s h h' → (∀ a, s.p = some a → B ≤ a.block ∧ ∃ cs, h[a.block]? = some (.cells cs T (0, 0))) → K s'.p s'.len s'.cap h') :
    newP T cs (fun a => appP T 2 32 z s.p s.len s.cap (.slice (some a) 1 1) K) h := by
  obtain ⟨raw, a1, a2, a3⟩ := b
  refine app_one (enc := encBt) (x := (seq, t)) encBt_len encBt_one hcs hz a1 hB (by omega) fun s' h' o' b' _ => ?_
  refine hK s' h' ⟨raw ++ [(seq, t)], o', by simp [a2], fun i r x hr hx => ?_⟩ b' fun a ha => ?_
  · have keepO : ∀ (u : Sl) (xs : List OpV), Own B 124 3 encO h u xs → Own B 124 3 encO h' u xs := fun u xs ou =>
      ou.keep fun n cs hn hBn hp => b'.2 n _ hn fun he => by
        have hr := a1.row
        cases hsp : s.p with
        | none => rw [hsp] at he; cases he
        | some a =>
          rw [hsp] at he hr
          obtain ⟨_, _, _, cs', h4, _⟩ := hr
          simp at he
          rw [he, hn] at h4
          cases h4
          exact hT rfl
    by_cases hi : i < raw.length
    · rw [List.getElem?_append_left hi] at hr
      rw [List.getElem?_append_left (by omega)] at hx
      obtain ⟨c1, c2, c3⟩ := a3 i r x hr hx
      exact ⟨c1, keepO _ _ c2, c3⟩
    · rw [List.getElem?_append_right (by omega)] at hr
      rw [List.getElem?_append_right (by omega)] at hx
      have hi0 : i - raw.length = 0 := by
        have := (List.getElem?_eq_some_iff.1 hr).1
        simp at this
        omega
      rw [← a2, hi0] at hx
      rw [hi0] at hr
      simp at hr hx
      subst hr hx
      exact ⟨rfl, keepO _ _ ho, h16⟩
  · have hr := a1.row
    rw [ha] at hr
    obtain ⟨_, _, e3, cs', h4, _⟩ := hr
    exact ⟨e3, cs', h4⟩
theorem but_keep {B : Nat} {M : Obj → Bool} {T : Nat} {s : Sl} {h h' : Heap} (b : But s h h') (hs : ∀ a, s.p = some a → B ≤ a.block ∧ ∃ cs, h[a.block]? = some (.cells cs T (0, 0))) (hM : ∀ cs, M (.cells cs T (0, 0)) = true) : Keep B M h h' :=
  ⟨b.1, fun n o hn hm => b.2 n o hn fun he => by
    cases hp : s.p with
    | none => rw [hp] at he; cases he
    | some a =>
      rw [hp] at he
      simp at he
      obtain ⟨h1, cs, h2⟩ := hs a hp
      rw [he] at h1 h2
      rw [hn] at h2
      cases h2
      rcases hm with hm | hm
      · omega
      · rw [hM] at hm; cases hm⟩
/-- The variable in which batches are put together. -/
def OutAt (c B : Nat) (bss : List (Nat × List OpV)) (h : Heap) : Prop := ∃ s, Shal.Loc c 31 [.slice s.p s.len s.cap] h ∧ Bts 38 B h s bss
theorem OutAt.ext {c B : Nat} {bss : List (Nat × List OpV)} {h h' : Heap} (o : OutAt c B bss h) (u : Ext h h') : OutAt c B bss h' := let ⟨s, a, b⟩ := o; ⟨s, a.ext u, b.ext u⟩
theorem decB_len {s : Bytes} {seq : Nat} {ops : List OpV} (h : decB s = some (seq, ops)) : ops.length ≤ 16 := by
  have := (decB_bat h).1
  unfold checkB at this
  split at this
  · cases this
  · rename_i h1
    simp only [not_or, Nat.not_lt] at h1
    exact h1.1
theorem readF_mem (s : Bytes) : ∀ r ∈ (readF s).1, r.length ≤ 524288 := by
  induction s using (measure List.length).wf.induction with
  | h s ih =>
    intro r hr
    cases h : rdF 0 [] s with
    | none => rw [readF_none h] at hr; simp at hr
    | some p =>
      obtain ⟨r0, m⟩ := p
      obtain ⟨h1, h2, h3, h4⟩ := rdF_some 0 [] s r0 m rfl h
      rw [readF_some h] at hr
      rcases List.mem_cons.1 hr with rfl | hr
      · exact h4
      · exact ih (s.drop (32 * m)) (by show (s.drop (32 * m)).length < s.length; rw [List.length_drop]; omega) r hr
theorem rep2_spec {B C c1 c3 d : Nat} {A : DiskA} {name : Bytes} {bss : List (Nat × List OpV)} {h : Heap} {Q : Int → PP} (P : PD B d A h) (ht : Tabs h) (hC : C ≤ h.size) (l1 : Shal.Loc c1 25 [.pointer (some ⟨d, 0, none⟩)] h) (o : OutAt c3 C bss h) (hc3 : C ≤ c3) (hbl : bss.length ≤ 90000000)
    (hQ : ∀ h', OutAt c3 C (bss ++ batsB (A.read name).1) h' → Keep C MB h h' → Q ((A.read name).2 : Int) h') : wal_Replay_2.C name ⟨c1, 0, none⟩ ⟨c3, 0, none⟩ Q h := by
  have P0 := P
  obtain ⟨fb, fs, mn, ml, ch, pp, ok⟩ := P0
  have hrl := read_len ok name
  apply wal_Replay_2.ok
  unfold wal_Replay_2.F
  refine ld_loc (n := 0) (s := .ptr) (x := some ⟨d, 0, none⟩) l1 rfl ?_
  refine read_spec P ?_
  generalize (A.read name).1 = data at hQ hrl ⊢
  generalize (A.read name).2 = e at hQ ⊢
  refine fread_spec ht (by omega) fun t h1 ot u1 => ?_
  unfold batsB at hQ
  have hrf := readF_len data
  have hrm := readF_mem data
  generalize (readF data).1 = recs at hQ ot hrf hrm
  have htl := ot.len
  have hz1 := u1.size
  refine ⟨fun i h' => ∃ (k : Nat) (bs' : List (Nat × List OpV)), i = (k : Int) ∧ k ≤ recs.length ∧ bs'.length ≤ bss.length + k ∧ bss ++ batsR recs = bs' ++ batsR (recs.drop k) ∧ OutAt c3 C bs' h' ∧ Keep C MB h h' ∧ Own h.size 9 1 (fun l => [encS l]) h' t recs, fun i _ => recs.length - i.toNat, ⟨0, bss, rfl, by omega, by omega, by simp, o.ext u1, u1.keep _ _, ot⟩, ?_⟩
  rintro ⟨i, _⟩ h2 ⟨k, bs', hi, hk, hbl', hbs, o2, k2, ot2⟩
  dsimp only at hi o2 k2 ot2
  subst hi
  dsimp only [unc]
  have fin : ∀ h', OutAt c3 C bs' h' → Keep C MB h h' → batsR (recs.drop k) = [] → Q (e : Int) h' := fun h' o' k' he => by
    rw [he, List.append_nil] at hbs
    rw [hbs] at hQ
    exact hQ h' o' k'
  refine ifB_of (fun hc => ?_) (fun hc => ?_)
  · have hk1 : k < recs.length := by have := of_decide_eq_true hc; omega
    have hget := List.getElem?_eq_getElem hk1
    have hdrop : recs.drop k = recs[k] :: recs.drop (k + 1) := List.drop_eq_getElem_cons hk1
    have hr8 := hrm recs[k] (List.getElem_mem hk1)
    generalize recs[k] = r at hget hdrop hr8
    refine Sees.idx1 (enc := encS) (Own.sees (enc := fun l => [encS l]) (k := 1) (fun _ => rfl) ot2) rfl hget fun a ha => ?_
    refine ld_of (s := .str) (x := r) ha ?_
    refine decode_spec (by omega) fun h3 u3 => ?_
    have hz2 := k2.size
    have hz3 := u3.size
    unfold Got
    cases hd : decB r with
    | none =>
      dsimp only
      refine newP_loc fun h4 u4 z4 l4 => ?_
      refine sts_loc l4 rfl (by simp) fun h5 l5 o5 => ?_
      rw [ifB_of_true (by rfl)]
      have u25 : Ext h2 h5 := u3.trans ((u4.up h3.size).trans (o5.up (Nat.le_refl _))).ext
      refine fin h5 (o2.ext u25) (k2.trans (u25.keep _ _)) ?_
      rw [hdrop]
      unfold batsR
      rw [hd]
    | some b =>
      obtain ⟨seq, ops⟩ := b
      have h16 := decB_len hd
      dsimp only
      intro so oso
      refine newP_loc fun h4 u4 z4 l4 => ?_
      refine sts_loc l4 rfl (by simp) fun h5 l5 o5 => ?_
      rw [ifB_of_false (by rfl)]
      have u35 : Ext h3 h5 := ((u4.up h3.size).trans (o5.up (Nat.le_refl _))).ext
      have u25 : Ext h2 h5 := u3.trans u35
      have hz5 := u25.size
      obtain ⟨s, ls, bt⟩ := o2.ext u25
      refine ld_loc (n := 0) (s := .slice) (x := s) ls rfl ?_
      refine lds_loc (l := [.int .u64, .slice]) ((seq : Int), so, ()) l5 ?_
      dsimp only [unc]
      refine bt.app (by decide) ((oso.ext u35).mono (by omega)) h16 (by omega) (by omega) rfl rfl fun s' h6 bt6 b6 hs6 => ?_
      have k56 : Keep C MB h5 h6 := but_keep (T := 38) b6 hs6 fun _ => rfl
      have hne : s.p.map (·.block) ≠ some c3 := by
        intro he
        cases hsp : s.p with
        | none => rw [hsp] at he; cases he
        | some a =>
          rw [hsp] at he
          simp at he
          obtain ⟨_, cs, hcs⟩ := hs6 a hsp
          rw [he] at hcs
          have := ls
          unfold Shal.Loc at this
          rw [this] at hcs
          cases hcs
      have ls6 : Shal.Loc c3 31 [.slice s.p s.len s.cap] h6 := Shal.Loc.but ls b6 hne
      refine st_loc0 (s := .slice) ls6 (by decide) fun h7 l7 o7 => ?_
      have k67 : Keep C MB h6 h7 := o7.keep hc3 ls6 rfl
      have bt7 : Bts 38 C h7 s' (bs' ++ [(seq, ops)]) := by
        obtain ⟨raw, a1, a2, a3⟩ := bt6
        refine ⟨raw, a1.only o7 (a1.rowne ls6 (by decide)), a2, fun i r x hr hx => ?_⟩
        obtain ⟨c1', c2', c3'⟩ := a3 i r x hr hx
        exact ⟨c1', c2'.only o7 (c2'.rowne ls6 (by decide)), c3'⟩
      rw [wi (by omega) (by omega)]
      refine ⟨⟨k + 1, bs' ++ [(seq, ops)], rfl, by omega, by rw [List.length_append]; simp; omega, ?_, ⟨s', l7, bt7⟩, ((k2.trans (u25.keep _ _)).trans k56).trans k67, ((ot2.ext u25).keepM k56 fun _ => rfl).keepM k67 fun _ => rfl⟩, (show recs.length - ((k : Int) + 1).toNat < recs.length - ((k : Nat) : Int).toNat by omega)⟩
      rw [hbs, hdrop, List.append_assoc, List.singleton_append]
      congr 1
      conv => lhs; unfold batsR
      rw [hd]
  · have hk1 : k = recs.length := by have := of_decide_eq_false hc; omega
    subst hk1
    refine fin h2 o2 k2 ?_
    rw [List.drop_length]
    rfl
theorem wreplay_spec {B d n : Nat} {A : DiskA} {h : Heap} {Q : Sl → Int → PP} (P : PD B d A h) (ht : Tabs h) (hn : n < 18446744073709551616) (hnow : A.now.length ≤ 1000)
    (hQ : ∀ s h', Bts 38 h.size h' s (A.replay n).1 → Ext h h' → Q s ((A.replay n).2 : Int) h') : wal_Replay.C (some ⟨d, 0, none⟩) (n : Int) Q h := by
  have P0 := P
  obtain ⟨fb, fs, mn, ml, ch, pp, ok⟩ := P0
  apply wal_Replay.ok
  unfold wal_Replay.F
  refine newP_loc fun h1 u1 z1 l1 => newP_loc fun h2 u2 z2 l2 => newP_loc fun h3 u3 z3 l3 => ?_
  have u12 := u1.trans u2
  have u13 := u12.trans u3
  refine ld_loc (n := 0) (s := .ptr) (x := some ⟨d, 0, none⟩) ((l1.ext u2).ext u3) rfl ?_
  have h9 := ht.size
  unfold DiskA.replay at hQ
  have hll := logs_len A
  let part : List Nat → List (Nat × List OpV) := fun l => l.flatMap fun m => batsB (A.read (nameB logW m)).1
  have hpl : ∀ l : List Nat, (part l).length ≤ 32768 * l.length := by
    intro l
    induction l with
    | nil => simp [part]
    | cons m l ih =>
      have h1 := batsB_len (A.read (nameB logW m)).1
      have h2 := read_len ok (nameB logW m)
      show ((m :: l).flatMap _).length ≤ _
      rw [List.flatMap_cons, List.length_append, List.length_cons]
      have : (part l).length = (l.flatMap fun m => batsB (A.read (nameB logW m)).1).length := rfl
      omega
  refine each_spec (P.ext u13) (ht.ext u13) (by omega) (fun m => decide (n ≤ m))
    (fun l h' => OutAt h2.size h2.size (part l) h' ∧ Keep h2.size MB h3 h')
    (fun _ _ _ => False) ⟨⟨⟨none, 0, 0⟩, l3, Bts.nil _ _ _⟩, Keep.refl _ _ _⟩ (fun l ha hb ⟨a1, a2⟩ u => ⟨a1.ext u, a2.trans (u.keep _ _)⟩) (fun l ha ⟨a1, a2⟩ => (ht.ext u13).keep (by omega) a2) ?_ ?_ ?_ ?_ ?_
  · rintro l m h4 K hm ⟨a1, a2⟩ hK
    refine ⟨144, #[], #[.pointer (some ⟨h1.size, 0, none⟩)], Tryz.f144, rfl, Tryz.func144, by kernel_rfl, ?_⟩
    show wal_Replay_1.C (m : Int) ⟨h1.size, 0, none⟩ K h4
    apply wal_Replay_1.ok
    unfold wal_Replay_1.F
    have l24 : Shal.Loc h1.size 30 [.int .u64 (n : Int)] h4 := Shal.Loc.keep (l2.ext u3) a2 (.inl (by omega))
    refine ld_loc (n := 0) (s := .int .u64) (x := (n : Int)) l24 rfl ?_
    have e : decide ((m : Int) ≥ (n : Int)) = decide (n ≤ m) := by rw [decide_eq_decide]; omega
    rw [e]
    exact hK h4 (Ext.refl _)
  · rintro l1' m l2' h4 K hon hfl hm ⟨a1, a2⟩ hK
    have hmem : m ∈ A.logs := by
      have : m ∈ A.logs.filter fun m => decide (n ≤ m) := by rw [hfl]; simp
      exact (List.mem_filter.1 this).1
    have hl1 : l1'.length ≤ A.now.length := by
      have e1 := congrArg List.length hfl
      have e2 := List.length_filter_le (fun m => decide (n ≤ m)) A.logs
      rw [List.length_append] at e1
      omega
    have hp1 := hpl l1'
    have hz := a2.size
    refine ⟨145, #[], #[.pointer (some ⟨h.size, 0, none⟩), .pointer (some ⟨h2.size, 0, none⟩)], Tryz.f145, rfl, Tryz.func145, by kernel_rfl, ?_⟩
    show wal_Replay_2.C (nameB logW m) ⟨h.size, 0, none⟩ ⟨h2.size, 0, none⟩ K h4
    have P4 : PD B d A h4 := (P.ext u13).keep a2 (fun _ _ => rfl) fun T hT cs => by
      have := memN_iff.1 hT
      simp only [List.mem_cons, List.not_mem_nil, or_false] at this
      rcases this with rfl | rfl | rfl | rfl <;> rfl
    have l14 : Shal.Loc h.size 25 [.pointer (some ⟨d, 0, none⟩)] h4 := Shal.Loc.keep ((l1.ext u2).ext u3) a2 (.inl (by have := u2.size; omega))
    refine rep2_spec P4 ((ht.ext u13).keep (by omega) a2) (by omega) l14 a1 (Nat.le_refl _) (by omega) fun h5 o5 k5 => ?_
    rw [log_read ok hon hmem]
    refine hK _ h5 (fun _ => ⟨?_, a2.trans k5⟩) (fun he => absurd rfl he) ?_
    · have : part (l1' ++ [m]) = part l1' ++ batsB (A.read (nameB logW m)).1 := by
        show (l1' ++ [m]).flatMap _ = _
        rw [List.flatMap_append]
        simp only [List.flatMap_cons, List.flatMap_nil, List.append_nil]
        rfl
      rw [this]
      exact o5
    · exact ⟨k5.size, fun b o hb hm => k5.at_ b o hb (by
        rcases hm with hm | hm
        · omega
        · right
          unfold MW at hm
          rw [Bool.or_eq_false_iff] at hm
          exact hm.2)⟩
  · intro hoff
    rw [hoff, if_pos rfl] at hQ
    refine ld_loc (n := 0) (s := .slice) (x := ⟨none, 0, 0⟩) l3 rfl ?_
    exact hQ _ h3 (Bts.nil _ _ _) u13
  · rintro hon h4 ⟨⟨s, ls, bt⟩, a2⟩
    rw [hon, if_neg (by decide)] at hQ
    refine ld_loc (n := 0) (s := .slice) (x := s) ls rfl ?_
    have ex : Ext h2 h4 := (((u3.up h2.size)).trans (show Up h2.size h3 h4 from ⟨a2.size, fun b o hb hm => a2.at_ b o hb (by
      rcases hm with hm | hm
      · exact .inl hm
      · cases hm)⟩)).ext
    refine hQ s h4 ?_ (u12.trans ex)
    obtain ⟨raw, b1, b2, b3⟩ := bt
    have hz2 := u12.size
    exact ⟨raw, b1.mono hz2, b2, fun i r x hr hx => let ⟨c1, c2, c3⟩ := b3 i r x hr hx; ⟨c1, c2.mono hz2, c3⟩⟩
  · rintro hon l1' m l2' e h' hfl he hf
    exact hf.elim
end Go.Proofs.W
end
