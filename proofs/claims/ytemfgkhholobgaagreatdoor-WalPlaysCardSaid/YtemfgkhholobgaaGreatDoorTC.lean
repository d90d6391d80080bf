/- Layer 7's law: acts in memory; how great they are; what they do. Layer 7's law: what is done, and said. Layer 7's law, whole. -/
import Derived.Test.YtemfgkhholobgaaGreatDoorTB
section
set_option maxRecDepth 100000
set_option linter.unusedVariables false
namespace Go.Proofs.W
open Go Go.Shal Go.Proofs Go.M
/-- An act as it lies in memory. -/
structure RawA where
  do_ : Nat
  n : Nat
  seq : Nat
  ops : Sl
  do5 : Nat
  a : Bytes
  b : Bytes
  n5 : Int
  names : Int
  ks : Sl
  ss : Sl
abbrev encRA (r : RawA) : List Value := [.int .u8 (r.do_ : Int), .int .u64 (r.n : Int), .int .u64 (r.seq : Int), .slice r.ops.p r.ops.len r.ops.cap, .int .u8 (r.do5 : Int), .string (bs r.a), .string (bs r.b), .int .i64 r.n5, .int .i64 r.names, .slice r.ks.p r.ks.len r.ks.cap, .slice r.ss.p r.ss.len r.ss.cap]
theorem encRA_len (r : RawA) : (encRA r).length = 11 := rfl
/-- .. and what it is. -/
structure ActIs (B : Nat) (h : Heap) (r : RawA) (ops : List OpV) (c : CrashV) : Prop where
  n : r.n < 18446744073709551616
  seq : r.seq < 18446744073709551616
  ops : View B 124 3 encO h r.ops ops
  n5 : -9223372036854775808 ≤ r.n5 ∧ r.n5 < 9223372036854775808
  crash : CrashAt B h c r.ks r.ss
  names : c.names = r.names
def actW (r : RawA) (ops : List OpV) (c : CrashV) : ActW := ⟨r.do_, r.n, r.seq, ops, ⟨r.do5, r.a, r.b, r.n5, c⟩⟩
theorem ActIs.keepB {B : Nat} {M : Obj → Bool} {h h' : Heap} {r : RawA} {ops : List OpV} {c : CrashV} (a : ActIs B h r ops c) (k : Keep B M h h') (h1 : ∀ cs, M (.cells cs 124 (0, 0)) = false) (h2 : ∀ cs, M (.cells cs 3 (0, 0)) = false) (h3 : ∀ cs, M (.cells cs 268 (0, 0)) = false) : ActIs B h' r ops c :=
  ⟨a.n, a.seq, a.ops.keep k (Nat.le_refl _) h1, a.n5, a.crash.keepM k (Nat.le_refl _) h2 h3, a.names⟩
theorem ActIs.ext {B : Nat} {h h' : Heap} {r : RawA} {ops : List OpV} {c : CrashV} (a : ActIs B h r ops c) (u : Ext h h') : ActIs B h' r ops c := a.keepB (u.keep B none_) (fun _ => rfl) (fun _ => rfl) fun _ => rfl
/-- No greater than statements go through. -/
def SmallA (r : RawA) (ops : List OpV) : Prop := smallBt ops ∧ r.a.length ≤ 20000 ∧ r.b.length ≤ 20000
abbrev enc44 (x : Nat × Bytes × Bytes × Int × Int × Sl × Sl) : List Value := [.int .u8 (x.1 : Int), .string (bs x.2.1), .string (bs x.2.2.1), .int .i64 x.2.2.2.1, .int .i64 x.2.2.2.2.1, .slice x.2.2.2.2.2.1.p x.2.2.2.2.2.1.len x.2.2.2.2.2.1.cap, .slice x.2.2.2.2.2.2.p x.2.2.2.2.2.2.len x.2.2.2.2.2.2.cap]
theorem enc44_len (x : Nat × Bytes × Bytes × Int × Int × Sl × Sl) : (enc44 x).length = 7 := rfl
theorem gcrash_spec {nm : Int} {ks ss : Sl} {h : Heap} {Q : Bool → PP} (hQ : ∀ b h', Ext h h' → Q b h') : law05_GreatCrash.C nm ks ss Q h := by
  apply law05_GreatCrash.ok
  unfold law05_GreatCrash.F
  refine newP_loc fun h1 u1 z1 l1 => ?_
  refine ld_loc (n := 1) (s := .slice) (x := ks) l1 rfl ?_
  refine ifB_of (fun _ => hQ _ _ u1) (fun _ => ?_)
  refine ld_loc (n := 2) (s := .slice) (x := ss) l1 rfl ?_
  exact hQ _ _ u1
/-- Great, of one act. -/
theorem great1_spec {x : Nat × Bytes × Bytes × Int × Int × Sl × Sl} {s : Sl} {h : Heap} {Q : Bool → PP} (hs : Sees 7 enc44 h s [x]) (hQ : ∀ b h', Ext h h' → (b = false → x.2.1.length ≤ 20000 ∧ x.2.2.1.length ≤ 20000) → Q b h') : law05_Great.C s Q h := by
  apply law05_Great.ok
  unfold law05_Great.F
  obtain ⟨sp, sl, sc⟩ := s
  have hlen : sl = 1 := hs.len
  subst hlen
  dsimp only
  rw [ifB_of_false (by simp)]
  refine ⟨fun _ n i h' => Ext h h' ∧ ((i = 0 ∧ n = 0) ∨ (i = 1 ∧ x.2.1.length ≤ 20000 ∧ x.2.2.1.length ≤ 20000)), fun _ _ i _ => (1 - i).toNat, ⟨Ext.refl _, .inl ⟨rfl, rfl⟩⟩, ?_⟩
  rintro ⟨_, n, i, _⟩ h1 ⟨u1, hi⟩
  dsimp only at u1 hi
  dsimp only [unc]
  rcases hi with ⟨rfl, rfl⟩ | ⟨rfl, hx1, hx2⟩
  · rw [ifB_of_true (by simp)]
    have s1 := hs.ext u1
    refine ⟨fun b h' => Ext h h' ∧ (b = false → x.2.1.length ≤ 20000 ∧ x.2.2.1.length ≤ 20000), ?_, ?_⟩
    · refine Sees.idx enc44_len s1 (n := 0) rfl rfl fun a ha => ?_
      refine ld_of (s := .str) (x := x.2.1) (ha 1 _ rfl) ?_
      refine ifB_of (fun _ => ⟨u1, fun hh => by cases hh⟩) (fun hc1 => ?_)
      refine Sees.idx enc44_len s1 (n := 0) rfl rfl fun a ha => ?_
      refine ld_of (s := .str) (x := x.2.2.1) (ha 2 _ rfl) ?_
      refine ifB_of (fun _ => ⟨u1, fun hh => by cases hh⟩) (fun hc2 => ?_)
      refine Sees.idx enc44_len s1 (n := 0) rfl rfl fun a ha => ?_
      refine lds_at (l := [.int .i64, .slice, .slice]) (x.2.2.2.2.1, x.2.2.2.2.2.1, x.2.2.2.2.2.2, ()) (fun n v hv => ?_) ?_
      · rw [add_add]
        match n, hv with
        | 0, hv => exact ha 4 _ hv
        | 1, hv => exact ha 5 _ hv
        | 2, hv => exact ha 6 _ hv
        | n + 3, hv => simp [injs] at hv
      · refine gcrash_spec fun b h2 u2 => ⟨u1.trans u2, fun _ => ?_⟩
        have h1 := of_decide_eq_false hc1
        have h2 := of_decide_eq_false hc2
        omega
    · rintro ⟨b, _⟩ h2 ⟨u2, hb⟩
      dsimp only at u2 hb
      dsimp only [unc]
      refine ifB_of (fun hbt => hQ _ _ u2 fun hh => by cases hh) (fun hbf => ?_)
      have s2 := hs.ext u2
      obtain ⟨hx1, hx2⟩ := hb hbf
      refine draw_ext ?_
      refine Sees.idx enc44_len s2 (n := 0) rfl rfl fun a ha => ?_
      refine ldG_ext (s := .str) (x := x.2.1) (ha 1 _ rfl) ?_
      refine Sees.idx enc44_len s2 (n := 0) rfl rfl fun a ha => ?_
      refine ldG_ext (s := .str) (x := x.2.2.1) (ha 2 _ rfl) ?_
      rw [wi (x := (0 : Int) + 1) (by omega) (by omega)]
      exact ⟨⟨u2, .inr ⟨rfl, hx1, hx2⟩⟩, (show (1 - (0 + 1) : Int).toNat < (1 - 0 : Int).toNat by decide)⟩
  · rw [ifB_of_false (by simp)]
    exact hQ _ _ u1 fun _ => ⟨hx1, hx2⟩
theorem great_spec {B : Nat} {s : Sl} {rs : List RawA} {h : Heap} {Q : Bool → PP} (hs : Sees 11 encRA h s rs) (ha : ∀ r ∈ rs, ∃ ops c, ActIs B h r ops c)
    (hQ : ∀ b h', Ext h h' → (b = false → rs.length ≤ 80 ∧ ∀ r ∈ rs, ∀ ops c, ActIs B h r ops c → SmallA r ops) → Q b h') : law07_Great.C s Q h := by
  apply law07_Great.ok
  unfold law07_Great.F
  have hlen := hs.len
  refine ifB_of (fun _ => hQ _ _ (Ext.refl _) fun hh => by cases hh) (fun hc80 => ?_)
  have h80 : rs.length ≤ 80 := by have := of_decide_eq_false hc80; omega
  have uniq : ∀ (r : RawA) (ops ops' : List OpV) (c c' : CrashV), ActIs B h r ops c → ActIs B h r ops' c' → smallBt ops → smallBt ops' := by
    intro r ops ops' c c' h1 h2 hsm
    have e1 := h1.ops.sees.len
    have e2 := h2.ops.sees.len
    have hel : ∀ (i : Nat) (o o' : OpV), ops[i]? = some o → ops'[i]? = some o' → o = o' := by
      intro i o o' ho ho'
      obtain ⟨a, p1, q1, r1⟩ := h1.ops.sees.elem encO_len ho
      obtain ⟨a', p2, q2, r2⟩ := h2.ops.sees.elem encO_len ho'
      rw [p1] at p2
      cases p2
      have k0 := (r1 0 _ rfl).symm.trans (r2 0 _ rfl)
      have k1 := (r1 1 _ rfl).symm.trans (r2 1 _ rfl)
      have k2 := (r1 2 _ rfl).symm.trans (r2 2 _ rfl)
      simp only [Option.some.injEq, encS, Value.string.injEq, Value.bool.injEq] at k0 k1 k2
      obtain ⟨x1, x2, x3⟩ := o
      obtain ⟨y1, y2, y3⟩ := o'
      have k0' := bs_inj k0
      have k1' := bs_inj k1
      simp only at k0' k1' k2
      rw [k0', k1', k2]
    refine ⟨by have := hsm.1; omega, fun o' ho' => ?_⟩
    obtain ⟨i, hi⟩ := List.getElem?_of_mem ho'
    have hi' : i < ops.length := by have := (List.getElem?_eq_some_iff.1 hi).1; omega
    have := hel i _ o' (List.getElem?_eq_getElem hi') hi
    rw [← this]
    exact hsm.2 _ (List.getElem_mem hi')
  refine ⟨fun _ n i h' => ∃ k m : Nat, i = (k : Int) ∧ n = (m : Int) ∧ k ≤ rs.length ∧ m ≤ 2000000 * k ∧ Ext h h' ∧ ∀ r ∈ rs.take k, ∀ ops c, ActIs B h r ops c → SmallA r ops, fun _ _ i _ => rs.length - i.toNat, ⟨0, 0, rfl, rfl, by omega, by omega, Ext.refl _, by simp⟩, ?_⟩
  rintro ⟨_, n, i, _⟩ h1 ⟨k, m, hi, hn, hk, hm, u1, hall⟩
  dsimp only at hi hn u1
  subst hi hn
  dsimp only [unc]
  have s1 := hs.ext u1
  refine ifB_of (fun hc => ?_) (fun hc => ?_)
  · have hk1 : k < rs.length := by have := of_decide_eq_true hc; omega
    have hget := List.getElem?_eq_getElem hk1
    obtain ⟨ops, cr, AI⟩ := ha rs[k] (List.getElem_mem hk1)
    have etake : rs.take (k + 1) = rs.take k ++ [rs[k]] := List.take_succ_eq_append_getElem hk1
    generalize rs[k] = r at hget AI etake
    refine ⟨fun b h' => Ext h h' ∧ (b = false → SmallA r ops), ?_, ?_⟩
    · refine Sees.idx encRA_len s1 rfl hget fun a ha => ?_
      refine lds_at (l := [.int .u64, .slice]) ((r.seq : Int), r.ops, ()) (fun n v hv => ?_) ?_
      · rw [add_add]
        match n, hv with
        | 0, hv => exact ha 2 _ hv
        | 1, hv => exact ha 3 _ hv
        | n + 2, hv => simp [injs] at hv
      dsimp only [unc]
      refine bgreat_spec (AI.ops.sees.ext u1) fun b2 h2 u2 hb2 => ?_
      have u02 := u1.trans u2
      refine ifB_of (fun _ => ⟨u02, fun hh => by cases hh⟩) (fun hbf => ?_)
      refine Sees.idx encRA_len (hs.ext u02) rfl hget fun a ha => ?_
      refine lds_at (l := [.int .u8, .str, .str, .int .i64, .int .i64, .slice, .slice]) ((r.do5 : Int), r.a, r.b, r.n5, r.names, r.ks, r.ss, ()) (fun n v hv => ?_) ?_
      · rw [add_add]
        match n, hv with
        | 0, hv => exact ha 4 _ hv
        | 1, hv => exact ha 5 _ hv
        | 2, hv => exact ha 6 _ hv
        | 3, hv => exact ha 7 _ hv
        | 4, hv => exact ha 8 _ hv
        | 5, hv => exact ha 9 _ hv
        | 6, hv => exact ha 10 _ hv
        | n + 7, hv => simp [injs] at hv
      dsimp only [unc]
      refine newP_sees (enc := enc44) (k := 7) (xs := [(r.do5, r.a, r.b, r.n5, r.names, r.ks, r.ss)]) enc44_len rfl rfl fun h3 u3 z3 s3 => ?_
      refine great1_spec s3 fun b4 h4 u4 hb4 => ⟨(u02.trans u3).trans u4, fun hh => ?_⟩
      exact ⟨hb2 hbf, (hb4 hh).1, (hb4 hh).2⟩
    · rintro ⟨b, _⟩ h2 ⟨u2, hb⟩
      dsimp only at u2 hb
      dsimp only [unc]
      refine ifB_of (fun _ => hQ _ _ u2 fun hh => by cases hh) (fun hbf => ?_)
      have hsm := hb hbf
      obtain ⟨⟨hs60, hs12⟩, hsa, hsb⟩ := hsm
      have s2 := hs.ext u2
      refine draw_ext ?_
      refine Sees.idx encRA_len s2 rfl hget fun a ha => ?_
      refine ldG_ext (s := .str) (x := r.a) (by rw [add_add]; exact ha 5 _ rfl) ?_
      refine Sees.idx encRA_len s2 rfl hget fun a ha => ?_
      refine ldG_ext (s := .str) (x := r.b) (by rw [add_add]; exact ha 6 _ rfl) ?_
      rw [wi (x := (m : Int) + (r.a.length : Int)) (by omega) (by omega), wi (x := (m : Int) + (r.a.length : Int) + (r.b.length : Int)) (by omega) (by omega)]
      have so := AI.ops.sees.ext u2
      have hol := so.len
      refine ⟨fun n i h' => ∃ j t : Nat, i = (j : Int) ∧ n = (t : Int) ∧ j ≤ ops.length ∧ t ≤ m + 40000 + 24000 * j ∧ h' = h2, fun _ i _ => ops.length - i.toNat, ⟨0, m + r.a.length + r.b.length, rfl, (show (m : Int) + (r.a.length : Int) + (r.b.length : Int) = ((m + r.a.length + r.b.length : Nat) : Int) by omega), by omega, by omega, rfl⟩, ?_⟩
      rintro ⟨n, i, _⟩ h3 ⟨j, t, hi, hn, hj, ht, hh⟩
      dsimp only at hi hn hh
      subst hi hn hh
      dsimp only [unc]
      refine Sees.idx encRA_len s2 rfl hget fun a ha => ?_
      refine ld_of (s := .slice) (x := r.ops) (by rw [add_add]; exact ha 3 _ rfl) ?_
      refine ifB_of (fun hc => ?_) (fun hc => ?_)
      · have hj1 : j < ops.length := by have := of_decide_eq_true hc; omega
        have hgo := List.getElem?_eq_getElem hj1
        obtain ⟨hx1, hx2⟩ := hs12 ops[j] (List.getElem_mem hj1)
        refine draw_ext ?_
        refine Sees.idx encRA_len s2 rfl hget fun a ha => ?_
        refine ldG_ext (s := .slice) (x := r.ops) (by rw [add_add]; exact ha 3 _ rfl) ?_
        refine Sees.idx encO_len so rfl hgo fun a ha => ?_
        refine ldG_ext (s := .str) (x := ops[j].key) (ha 0 _ rfl) ?_
        refine Sees.idx encRA_len s2 rfl hget fun a ha => ?_
        refine ldG_ext (s := .slice) (x := r.ops) (by rw [add_add]; exact ha 3 _ rfl) ?_
        refine Sees.idx encO_len so rfl hgo fun a ha => ?_
        refine ldG_ext (s := .str) (x := ops[j].val) (ha 1 _ rfl) ?_
        rw [wi (x := (t : Int) + (ops[j].key.length : Int)) (by omega) (by omega), wi (x := (t : Int) + (ops[j].key.length : Int) + (ops[j].val.length : Int)) (by omega) (by omega), wi (x := (j : Int) + 1) (by omega) (by omega)]
        exact ⟨⟨j + 1, t + ops[j].key.length + ops[j].val.length, rfl, rfl, by omega, by omega, rfl⟩, (show ops.length - ((j : Int) + 1).toNat < ops.length - ((j : Nat) : Int).toNat by omega)⟩
      · rw [wi (x := (k : Int) + 1) (by omega) (by omega)]
        refine ⟨⟨k + 1, t, rfl, rfl, by omega, by omega, u2, fun r' hr' => ?_⟩, (show rs.length - ((k : Int) + 1).toNat < rs.length - ((k : Nat) : Int).toNat by omega)⟩
        rw [etake] at hr'
        rcases List.mem_append.1 hr' with hr' | hr'
        · exact hall r' hr'
        · rw [List.mem_singleton] at hr'
          subst hr'
          intro ops' c' AI'
          exact ⟨uniq r' ops ops' cr c' AI AI' ⟨hs60, hs12⟩, hsa, hsb⟩
  · have hk1 : k = rs.length := by have := of_decide_eq_false hc; omega
    subst hk1
    rw [List.take_length] at hall
    exact hQ _ _ u1 fun _ => ⟨h80, hall⟩
end Go.Proofs.W
end
section
set_option maxRecDepth 100000
set_option linter.unusedVariables false
namespace Go.Proofs.W
open Go Go.Shal Go.Proofs Go.M
theorem keep_ext {M : Obj → Bool} {h h' : Heap} (k : Keep h.size M h h') : Ext h h' := ⟨k.size, fun b o hb _ => k.at_ b o hb (.inl (lt_of_some hb))⟩
theorem actW_other {A : DiskA} {at_ : Option Nat} {x : ActW} (h : 5 ≤ x.do_) : A.actW at_ x = ((at_, [], 0), A) := by
  unfold DiskA.actW
  split <;> first | omega | rfl
theorem wadd_none {p : Option Addr} {d : Nat} {seq : Int} {s : Sl} {h : Heap} {Q : Int → PP} (L : LogIs p none d h) (hQ : ∀ h', Ext h h' → Q 2 h') : wal_Log_Add.C p seq s Q h := by
  apply wal_Log_Add.ok
  unfold wal_Log_Add.F
  refine newP_loc fun h1 u1 z1 l1 => ?_
  refine none_log (at_ := none) (d := d) L ?_
  exact hQ h1 u1
theorem Bts.mono {T B B' : Nat} {h : Heap} {s : Sl} {bss : List (Nat × List OpV)} (b : Bts T B h s bss) (hB : B' ≤ B) : Bts T B' h s bss :=
  let ⟨raw, b1, b2, b3⟩ := b
  ⟨raw, b1.mono hB, b2, fun i r x hr hx => let ⟨c1, c2, c3⟩ := b3 i r x hr hx; ⟨c1, c2.mono hB, c3⟩⟩
section
variable {B d w k c : Nat} {A : DiskA} {h : Heap} {at_ : Option Nat} {r : RawA} {ops : List OpV} {cr : CrashV}
theorem doesW_spec {p : Option Addr} {Q : Option Addr → Sl → Int → PP} (P : PD B d A h) (L : LogIs p at_ d h) (ht : Tabs h) (hB : B ≤ h.size) (h9 : 4 ≤ B) (AI : ActIs B h r ops cr) (sm : SmallA r ops) (bd : Bd k c A) (hk : k ≤ 1000) (hc : c ≤ 1000000)
    (hQ : ∀ p' s' h', PD B d (A.actW at_ (actW r ops cr)).2 h' → LogIs p' (A.actW at_ (actW r ops cr)).1.1 d h' → Bts 38 B h' s' (A.actW at_ (actW r ops cr)).1.2.1 → Keep B MP h h' → Q p' s' ((A.actW at_ (actW r ops cr)).1.2.2 : Int) h') :
    law07_does.C (some ⟨d, 0, none⟩) p (r.do_ : Int) (r.n : Int) (r.seq : Int) r.ops (r.do5 : Int) r.a r.b r.n5 r.names r.ks r.ss Q h := by
  apply law07_does.ok
  unfold law07_does.F
  refine newP_loc fun h1 u1 z1 l1 => ?_
  have P1 := P.ext u1
  have AI1 := AI.ext u1
  have L1 : LogIs p at_ d h1 := L.keep (u1.keep 0 none_) (fun _ => rfl)
  have ht1 := ht.ext u1
  have hz1 := u1.size
  have hf := bd.files
  have hnow := bd.now
  have hch := bd.chgs
  have k01 : Keep B MP h h1 := u1.keep _ _
  have fin : ∀ {t : (Option Nat × List (Nat × List OpV) × Nat) × DiskA} (p' : Option Addr) (s' : Sl) (h2 : Heap), A.actW at_ (actW r ops cr) = t → PD B d t.2 h2 → LogIs p' t.1.1 d h2 → Bts 38 B h2 s' t.1.2.1 → Keep B MP h1 h2 → Q p' s' (t.1.2.2 : Int) h2 := fun {t} p' s' h2 he hp hl hb hk => by
    subst he
    exact hQ p' s' h2 hp hl hb (k01.trans hk)
  have ea : ∀ m : Nat, r.do_ = m → A.actW at_ (actW r ops cr) = A.actW at_ ⟨m, r.n, r.seq, ops, ⟨r.do5, r.a, r.b, r.n5, cr⟩⟩ := fun m hm => by subst hm; rfl
  have keepL : ∀ {h2 : Heap}, Keep B MP h1 h2 → LogIs p at_ d h2 := fun hk => L1.keep hk (fun _ => rfl)
  refine ld_loc (n := 0) (s := .int .u8) (x := (r.do_ : Int)) l1 rfl ?_
  refine ifB_of (fun hb' => ?_) (fun hb0 => ?_)
  · have he : r.do_ = 0 := by have : (r.do_ : Int) = 0 := by simpa using hb'
                              omega
    refine ld_loc (n := 1) (s := .int .u64) (x := (r.n : Int)) l1 rfl ?_
    refine wbegin_spec P1 ht1 (by omega) h9 AI.n (by omega) (by omega) fun p4 h4 P4 k4 hl4 => ?_
    by_cases h0 : (A.begin r.n).1 = 0
    · rw [if_pos h0] at hl4
      rw [ifB_of_true (by rw [h0]; rfl)]
      refine fin p4 _ h4 (ea 0 he) P4 ?_ (Bts.nil _ _ _) k4
      show LogIs p4 (if (A.begin r.n).1 = 0 then some r.n else at_) d h4
      rw [if_pos h0]
      exact hl4
    · rw [if_neg h0] at hl4
      rw [ifB_of_false (by simpa using h0)]
      refine fin p _ h4 (ea 0 he) P4 ?_ (Bts.nil _ _ _) k4
      show LogIs p (if (A.begin r.n).1 = 0 then some r.n else at_) d h4
      rw [if_neg h0]
      exact keepL k4
  refine ifB_of (fun hb' => ?_) (fun hb1 => ?_)
  · have he : r.do_ = 1 := by have : (r.do_ : Int) = 1 := by simpa using hb'
                              omega
    refine lds_at (l := [.int .u64, .slice]) ((r.seq : Int), r.ops, ()) (fun n v hv => ?_) ?_
    · rw [add_add]
      exact l1.cell (by
        match n, hv with
        | 0, hv => exact hv
        | 1, hv => exact hv
        | n + 2, hv => simp [injs] at hv)
    dsimp only [unc]
    cases hat : at_ with
    | none =>
      subst hat
      refine wadd_none L1 fun h2 u2 => ?_
      exact fin p _ h2 (ea 1 he) (P1.ext u2) (keepL (u2.keep _ _)) (Bts.nil _ _ _) (u2.keep _ _)
    | some m =>
      subst hat
      have hol : ops.length < 4611686018427387904 := by have := sm.1.1; omega
      refine wadd_spec P1 ht1 (by omega) h9 L1 AI1.ops.sees hol AI.seq (by omega) fun h2 P2 k2 => ?_
      exact fin p _ h2 (ea 1 he) P2 (keepL k2) (Bts.nil _ _ _) k2
  refine ifB_of (fun hb' => ?_) (fun hb2 => ?_)
  · have he : r.do_ = 2 := by have : (r.do_ : Int) = 2 := by simpa using hb'
                              omega
    refine ld_loc (n := 1) (s := .int .u64) (x := (r.n : Int)) l1 rfl ?_
    refine wreplay_spec P1 ht1 AI.n (by omega) fun s2 h2 b2 u2 => ?_
    exact fin p _ h2 (ea 2 he) (P1.ext u2) (keepL (u2.keep _ _)) (b2.mono (by omega)) (u2.keep _ _)
  refine ifB_of (fun hb' => ?_) (fun hb3 => ?_)
  · have he : r.do_ = 3 := by have : (r.do_ : Int) = 3 := by simpa using hb'
                              omega
    refine ld_loc (n := 1) (s := .int .u64) (x := (r.n : Int)) l1 rfl ?_
    refine wretire_spec P1 ht1 (by omega) h9 AI.n (by omega) (by omega) fun h2 P2 k2 => ?_
    exact fin p _ h2 (ea 3 he) P2 (keepL k2) (Bts.nil _ _ _) k2
  refine ifB_of (fun hb' => ?_) (fun hb4 => ?_)
  · have he : r.do_ = 4 := by have : (r.do_ : Int) = 4 := by simpa using hb'
                              omega
    refine lds_at (l := [.int .u8, .str, .str, .int .i64, .int .i64, .slice, .slice]) ((r.do5 : Int), r.a, r.b, r.n5, r.names, r.ks, r.ss, ()) (fun n v hv => ?_) ?_
    · rw [add_add]
      exact l1.cell (by
        match n, hv with
        | 0, hv => exact hv
        | 1, hv => exact hv
        | 2, hv => exact hv
        | 3, hv => exact hv
        | 4, hv => exact hv
        | 5, hv => exact hv
        | 6, hv => exact hv
        | n + 7, hv => simp [injs] at hv)
    dsimp only [unc]
    rw [← AI.names]
    have hb20 := sm.2.2
    refine does5_spec (x := ⟨r.do5, r.a, r.b, r.n5, cr⟩) P1 (by omega) AI1.crash bd hk hc (show r.b.length ≤ 1000000000 by omega) AI.n5.2 fun h2 P2 k2 => ?_
    exact fin p _ h2 (ea 4 he) P2 (keepL k2) (Bts.nil _ _ _) k2
  · have h5 : 5 ≤ (actW r ops cr).do_ := by
      simp only [beq_eq_false_iff_ne, ne_eq] at hb0 hb1 hb2 hb3 hb4
      show 5 ≤ r.do_
      omega
    exact fin p _ h1 (actW_other h5) P1 L1 (Bts.nil _ _ _) (Keep.refl _ _ _)
theorem saidW_spec {Q : Int → Bool → Sl → Int → PP} (P : RD B w A h) (hat : ∀ m, at_ = some m → m < 18446744073709551616) (hB : B ≤ h.size) (AI : ActIs B h r ops cr) (sm : SmallA r ops) (bd : Bd k c A) (hk : k ≤ 1000) (hc : c ≤ 1000000)
    (hQ : ∀ s' h', RD B w (A.actW at_ (actW r ops cr)).2 h' → Bts 144 B h' s' (A.actW at_ (actW r ops cr)).1.2.1 → Keep B MR h h' → Q (((A.actW at_ (actW r ops cr)).1.1.getD 0 : Nat) : Int) (A.actW at_ (actW r ops cr)).1.1.isSome s' ((A.actW at_ (actW r ops cr)).1.2.2 : Int) h') :
    law07_said.C (some ⟨w, 0, none⟩) ((at_.getD 0 : Nat) : Int) at_.isSome (r.do_ : Int) (r.n : Int) (r.seq : Int) r.ops (r.do5 : Int) r.a r.b r.n5 r.names r.ks r.ss Q h := by
  apply law07_said.ok
  unfold law07_said.F
  refine newP_loc fun h1 u1 z1 l1 => ?_
  have P1 := P.ext u1
  have AI1 := AI.ext u1
  have hz1 := u1.size
  have hf := bd.files
  have hnow := bd.now
  have hch := bd.chgs
  have k01 : Keep B MR h h1 := u1.keep _ _
  have fin : ∀ {t : (Option Nat × List (Nat × List OpV) × Nat) × DiskA} (s' : Sl) (h2 : Heap), A.actW at_ (actW r ops cr) = t → RD B w t.2 h2 → Bts 144 B h2 s' t.1.2.1 → Keep B MR h1 h2 → Q ((t.1.1.getD 0 : Nat) : Int) t.1.1.isSome s' (t.1.2.2 : Int) h2 := fun {t} s' h2 he hp hb hk => by
    subst he
    exact hQ s' h2 hp hb (k01.trans hk)
  have ea : ∀ m : Nat, r.do_ = m → A.actW at_ (actW r ops cr) = A.actW at_ ⟨m, r.n, r.seq, ops, ⟨r.do5, r.a, r.b, r.n5, cr⟩⟩ := fun m hm => by subst hm; rfl
  refine ld_loc (n := 0) (s := .int .u8) (x := (r.do_ : Int)) l1 rfl ?_
  refine ifB_of (fun hb' => ?_) (fun hb0 => ?_)
  · have he : r.do_ = 0 := by have : (r.do_ : Int) = 0 := by simpa using hb'
                              omega
    refine ld_loc (n := 1) (s := .int .u64) (x := (r.n : Int)) l1 rfl ?_
    refine rbegin_spec P1 (by omega) AI.n (by omega) (by omega) (by omega) fun h4 P4 k4 => ?_
    have := fin _ h4 (ea 0 he) P4 (Bts.nil _ _ _) k4
    have e1 : (A.actW at_ ⟨0, r.n, r.seq, ops, ⟨r.do5, r.a, r.b, r.n5, cr⟩⟩).1.1 = if (A.begin r.n).1 = 0 then some r.n else at_ := rfl
    rw [e1] at this
    by_cases h0 : (A.begin r.n).1 = 0
    · rw [if_pos h0] at this
      rw [ifB_of_true (by rw [h0]; rfl)]
      refine ld_loc (n := 1) (s := .int .u64) (x := (r.n : Int)) (Shal.Loc.keep l1 k4 (.inr rfl)) rfl ?_
      exact this
    · rw [if_neg h0] at this
      rw [ifB_of_false (by simpa using h0)]
      exact this
  refine ifB_of (fun hb' => ?_) (fun hb1 => ?_)
  · have he : r.do_ = 1 := by have : (r.do_ : Int) = 1 := by simpa using hb'
                              omega
    cases hatc : at_ with
    | none =>
      subst hatc
      exact fin _ h1 (ea 1 he) P1 (Bts.nil _ _ _) (Keep.refl _ _ _)
    | some m =>
      subst hatc
      show ifB false _ _ h1
      rw [ifB_of_false rfl]
      refine lds_at (l := [.int .u64, .slice]) ((r.seq : Int), r.ops, ()) (fun n v hv => ?_) ?_
      · rw [add_add]
        exact l1.cell (by
          match n, hv with
          | 0, hv => exact hv
          | 1, hv => exact hv
          | n + 2, hv => simp [injs] at hv)
      dsimp only [unc]
      refine given_spec fun h2 u2 => ?_
      have hol : ops.length < 4611686018427387904 := by have := sm.1.1; omega
      have hz2 := u2.size
      refine radd_spec (P1.ext u2) (by omega) (hat m rfl) (AI1.ops.sees.ext u2) hol AI.seq (by omega) fun h3 P3 k3 => ?_
      exact fin _ h3 (ea 1 he) P3 (Bts.nil _ _ _) ((u2.keep _ _).trans k3)
  refine ifB_of (fun hb' => ?_) (fun hb2 => ?_)
  · have he : r.do_ = 2 := by have : (r.do_ : Int) = 2 := by simpa using hb'
                              omega
    refine ld_loc (n := 1) (s := .int .u64) (x := (r.n : Int)) l1 rfl ?_
    refine rreplay_spec P1 AI.n (by omega) fun s2 h2 b2 u2 => ?_
    exact fin _ h2 (ea 2 he) (P1.ext u2) (b2.mono (by omega)) (u2.keep _ _)
  refine ifB_of (fun hb' => ?_) (fun hb3 => ?_)
  · have he : r.do_ = 3 := by have : (r.do_ : Int) = 3 := by simpa using hb'
                              omega
    refine ld_loc (n := 1) (s := .int .u64) (x := (r.n : Int)) l1 rfl ?_
    refine rretire_spec P1 (by omega) AI.n k c bd hk hc fun h2 P2 k2 => ?_
    exact fin _ h2 (ea 3 he) P2 (Bts.nil _ _ _) k2
  refine ifB_of (fun hb' => ?_) (fun hb4 => ?_)
  · have he : r.do_ = 4 := by have : (r.do_ : Int) = 4 := by simpa using hb'
                              omega
    refine lds_at (l := [.int .u8, .str, .str, .int .i64, .int .i64, .slice, .slice]) ((r.do5 : Int), r.a, r.b, r.n5, r.names, r.ks, r.ss, ()) (fun n v hv => ?_) ?_
    · rw [add_add]
      exact l1.cell (by
        match n, hv with
        | 0, hv => exact hv
        | 1, hv => exact hv
        | 2, hv => exact hv
        | 3, hv => exact hv
        | 4, hv => exact hv
        | 5, hv => exact hv
        | 6, hv => exact hv
        | n + 7, hv => simp [injs] at hv)
    dsimp only [unc]
    rw [← AI.names]
    have ha20 := sm.2.1
    have hb20 := sm.2.2
    refine said5_spec (x := ⟨r.do5, r.a, r.b, r.n5, cr⟩) P1 (by omega) AI1.crash bd hk hc (show r.a.length ≤ 1000000000 by omega) (show r.b.length ≤ 1000000000 by omega) AI.n5.2 fun h2 P2 k2 => ?_
    exact fin _ h2 (ea 4 he) P2 (Bts.nil _ _ _) k2
  · have h5 : 5 ≤ (actW r ops cr).do_ := by
      simp only [beq_eq_false_iff_ne, ne_eq] at hb0 hb1 hb2 hb3 hb4
      show 5 ≤ r.do_
      omega
    exact fin _ h1 (actW_other h5) P1 (Bts.nil _ _ _) (Keep.refl _ _ _)
end
/-! ### The chapter's example -/
theorem small_spec' {seq : Nat} {h : Heap} {Q : Int → Sl → PP} (hQ : ∀ s h', Sees 3 encO h' s exO → Ext h h' → Q (seq : Int) s h') : law07_small.C (seq : Int) Q h := by
  apply law07_small.ok
  unfold law07_small.F
  refine newP_loc fun h1 u1 z1 l1 => ?_
  refine newP_loc fun h2 u2 z2 l2 => ?_
  refine sts_loc (l1.ext u2) rfl (by simp) fun h3 l3 o3 => ?_
  refine lds_loc (l := [.int .u64, .slice]) ((seq : Int), ⟨some ⟨h1.size, 0, none⟩, 1, 1⟩, ()) l3 ?_
  dsimp only [unc]
  refine hQ _ h3 ?_ ((u1.trans u2).up h.size |>.trans (o3.up (Nat.le_refl _))).ext
  have l23 := Shal.Loc.only l2 o3 (by omega)
  exact ⟨rfl, cellsAt_of l23 rfl rfl, fun hp => by cases hp⟩
end Go.Proofs.W
end
section
set_option maxRecDepth 100000
set_option linter.unusedVariables false
namespace Go.Proofs.W
open Go Go.Shal Go.Proofs Go.M
theorem awake_spec {h : Heap} {Q : Bool → PP} (ht : Tabs h) (hQ : ∀ h', Ext h h' → Q true h') : law07_awake.C Q h := by
  apply law07_awake.ok
  unfold law07_awake.F
  have h9 := ht.size
  refine new_spec (B := h.size) (Nat.le_refl _) fun d h1 P1 u1 => ?_
  have hz1 := u1.size
  refine wbegin_spec (n := 3) P1 (ht.ext u1) (by omega) (by omega) (by omega) (by simp [newD]) (by simp [newD]) fun p2 h2 P2 k2 hl2 => ?_
  rw [ex_begin] at P2 hl2 ⊢
  rw [if_pos rfl] at hl2
  dsimp only at P2 ⊢
  have t2 : Tabs h2 := (ht.ext u1).keep (by omega) k2
  have e2 : Keep h.size MP h h2 := (u1.keep _ _).trans k2
  have hz2 := e2.size
  refine join_b false (fun h' => h' = h2) ?_ ?_
  · rw [ifB_of_false (by rfl)]
    refine ⟨.inr rfl, ?_⟩
    obtain ⟨b, rfl, hb, hn⟩ := hl2
    rw [ifB_of_false (by simp)]
    exact num_log (at_ := some 3) (d := d) ⟨b, rfl, hb, hn⟩ ⟨rfl, rfl⟩
  rintro h2 rfl
  rw [ifB_of_false rfl]
  refine small_spec' (seq := 1) fun s1 h3 ss1 u3 => ?_
  have hz3 := u3.size
  have hl3 := hl2.keep (u3.keep 0 none_) (fun _ => rfl)
  refine wadd_spec (n := 3) (seq := 1) (P2.ext u3) (t2.ext u3) (by omega) (by omega) hl3 ss1 (by decide) (by omega) (by rw [exS_now]; simp) fun h4 P4 k4 => ?_
  rw [ex_add0 _ 1 (by omega) (by omega) (by simp)] at P4 ⊢
  dsimp only at P4 ⊢
  rw [List.nil_append] at P4
  have t4 : Tabs h4 := (t2.ext u3).keep (by omega) k4
  have hz4 := k4.size
  have hl4 := hl3.keep k4 (fun _ => rfl)
  have k04 : Keep h.size MP h h4 := (e2.trans (u3.keep _ _)).trans k4
  refine fuse_spec (n := 2) P4 (by omega) fun h5 P5 k5 => ?_
  have P5 : PD h.size d (exS ⟨frm 0 (batB 1 exO), (frm 0 (batB 1 exO)).length⟩ 2 false) h5 := P5
  have hz5 := k5.size
  have t5 : Tabs h5 := t4.keep (by omega) k5
  have hl5 := hl4.keep k5 (fun _ => rfl)
  refine small_spec' (seq := 2) fun s2 h6 ss2 u6 => ?_
  have hz6 := u6.size
  have hl6 := hl5.keep (u6.keep 0 none_) (fun _ => rfl)
  have hf1 := exF_len 1 (by omega)
  refine wadd_spec (n := 3) (seq := 2) (P5.ext u6) (t5.ext u6) (by omega) (by omega) hl6 ss2 (by decide) (by omega) (by rw [exS_now]; simp) fun h7 P7 k7 => ?_
  rw [ex_add2 _ 2 (by omega) (by omega) (by show (frm 0 (batB 1 exO)).length ≤ _; omega)] at P7 ⊢
  dsimp only at P7 ⊢
  have hz7 := k7.size
  have t7 : Tabs h7 := (t5.ext u6).keep (by omega) k7
  have k07 : Keep h.size MP h h7 := ((k04.trans k5).trans (u6.keep _ _)).trans k7
  refine newP_loc fun h8 u8 z8 l8 => ?_
  have C8 : CrashAt h.size h8 ⟨0, [31], []⟩ ⟨some ⟨h7.size, 0, none⟩, 1, 1⟩ ⟨none, 0, 0⟩ := by
    refine ⟨⟨⟨rfl, cellsAt_of l8 rfl rfl, fun hp => by cases hp⟩, fun _ a ha => ?_⟩, ⟨Sees.nil _ _ _ _, fun _ a ha => by cases ha⟩, fun n hn => ?_, fun p hp => by simp at hp⟩
    · cases ha
      exact .inr ⟨_, l8⟩
    · simp at hn
      omega
  refine crash_spec (c := ⟨0, [31], []⟩) (P7.ext u8) (by omega) C8 ?_ fun h9' P9 k9 => ?_
  · show (DiskA.dirAt _ _).length ≤ _
    have : ∀ i, ((exS ⟨frm 0 (batB 1 exO) ++ frm 0 (batB 2 exO), (frm 0 (batB 1 exO)).length⟩ 0 true).dirAt i).length = 1 := by
      intro i
      unfold DiskA.dirAt
      show (List.foldl applyC [(exN, 0)] (([] : List Chg).take i)).length = 1
      rw [List.take_nil]
      rfl
    rw [this]
    omega
  rw [ex_crash] at P9
  have hz9 := k9.size
  refine start_spec P9 fun h10 P10 k10 => ?_
  have P10 : PD h.size d (exS exT 0 false) h10 := P10
  have k010 : Keep h.size MP h h10 := ((k07.trans (u8.keep _ _)).trans k9).trans k10
  have t10 : Tabs h10 := ht.keep (by omega) k010
  refine wreplay_spec (n := 0) P10 t10 (by omega) (by rw [exS_now]; simp) fun s11 h11 b11 u11 => ?_
  rw [ex_replay] at b11 ⊢
  dsimp only at b11 ⊢
  refine logs_spec (P10.ext u11) (t10.ext u11) (by rw [exS_now]; simp) fun s12 h12 o12 u12 => ?_
  rw [ex_logs] at o12
  have e12 : Ext h h12 := (keep_ext k010).trans (u11.trans u12)
  have b12 := b11.ext u12
  have hlen := b12.len
  obtain ⟨raw, r1, r2, r3⟩ := b12
  have hol := o12.len
  have hr2 : raw.length = 1 := r2
  obtain ⟨r0, hr0⟩ : ∃ r0, raw = [r0] := by
    match raw, hr2 with
    | [r0], _ => exact ⟨r0, rfl⟩
  subst hr0
  obtain ⟨c1, c2, c3⟩ := r3 0 r0 (1, exO) rfl rfl
  have c1 : r0.1 = 1 := c1
  have sb : Sees 2 encBt h12 s11 [r0] := Own.sees (enc := encBt) encBt_len r1
  have so : Sees 3 encO h12 r0.2 exO := Own.sees (enc := encO) encO_len c2
  have hso : r0.2.len = 1 := so.len
  have hs11 : s11.len = 1 := hlen
  have hs12 : s12.len = 1 := hol
  rw [ifB_of_true (by rfl), ifB_of_true (by rfl), ifB_of_true (by rfl), ifB_of_true (by rw [hs11]; rfl)]
  refine Sees.idx encBt_len sb (n := 0) rfl rfl fun a ha => ?_
  refine ld_of (s := .int .u64) (x := (r0.1 : Int)) (ha 0 _ rfl) ?_
  rw [ifB_of_true (by rw [c1]; rfl)]
  refine Sees.idx encBt_len sb (n := 0) rfl rfl fun a ha => ?_
  refine ld_of (s := .slice) (x := r0.2) (ha 1 _ rfl) ?_
  rw [ifB_of_true (by rw [hso]; rfl)]
  refine Sees.idx encBt_len sb (n := 0) rfl rfl fun a ha => ?_
  refine ld_of (s := .slice) (x := r0.2) (ha 1 _ rfl) ?_
  refine Sees.idx encO_len so (n := 0) rfl rfl fun a ha => ?_
  refine ld_of (s := .str) (x := [120]) (ha 1 _ rfl) ?_
  rw [ifB_of_true (by rfl), ifB_of_true (by rw [hs12]; rfl)]
  refine Sees.idx (enc := enc64) (fun _ => rfl) (Own.sees (enc := enc64) (k := 1) (fun _ => rfl) o12) (n := 0) rfl rfl fun a ha => ?_
  refine ld_of (s := .int .u64) (x := ((3 : Nat) : Int)) (ha 0 _ rfl) ?_
  exact hQ h12 e12
theorem replay_len {A : DiskA} (ok : OkDisk A) (n : Nat) : (A.replay n).1.length ≤ 32768 * A.now.length := by
  unfold DiskA.replay
  split
  · simp
  · have hpl : ∀ l : List Nat, (l.flatMap fun m => batsB (A.read (nameB logW m)).1).length ≤ 32768 * l.length := by
      intro l
      induction l with
      | nil => simp
      | cons m l ih =>
        have h1 := batsB_len (A.read (nameB logW m)).1
        have h2 := read_len ok (nameB logW m)
        rw [List.flatMap_cons, List.length_append, List.length_cons]
        omega
    have h1 := hpl (A.logs.filter fun m => decide (n ≤ m))
    have h2 := List.length_filter_le (fun m => decide (n ≤ m)) A.logs
    have h3 := logs_len A
    dsimp only
    omega
theorem actW_len {A : DiskA} {at_ : Option Nat} {x : ActW} (ok : OkDisk A) : (A.actW at_ x).1.2.1.length ≤ 32768 * A.now.length := by
  unfold DiskA.actW
  split
  · simp
  · split <;> simp
  · exact replay_len ok _
  · simp
  · simp
  · simp
/-- What both disks turn. -/
def MA : Obj → Bool := fun o => MP o || MR o
theorem MA_P {B : Nat} {h h' : Heap} (k : Keep B MP h h') : Keep B MA h h' := k.mono (Nat.le_refl _) fun o ho => by unfold MA at ho; rw [Bool.or_eq_false_iff] at ho; exact ho.1
theorem MA_R {B : Nat} {h h' : Heap} (k : Keep B MR h h') : Keep B MA h h' := k.mono (Nat.le_refl _) fun o ho => by unfold MA at ho; rw [Bool.or_eq_false_iff] at ho; exact ho.2
theorem Bd.begin_lt {A : DiskA} {at_ : Option Nat} {r : RawA} {ops : List OpV} {cr : CrashV} {h : Heap} {B : Nat} (AI : ActIs B h r ops cr) (hat : ∀ m, at_ = some m → m < 18446744073709551616) : ∀ m, (A.actW at_ (actW r ops cr)).1.1 = some m → m < 18446744073709551616 := by
  intro m
  unfold DiskA.actW
  split
  · dsimp only
    split
    · intro h; cases h; exact AI.n
    · exact hat m
  · split
    · exact hat m
    · exact hat m
  · exact hat m
  · exact hat m
  · exact hat m
  · exact hat m
theorem walplays_spec {s : Sl} {rs : List RawA} {room : Int} {h : Heap} {Q : Bool → PP} (ht : Tabs h) (hv : View h.size 46 11 encRA h s rs) (ha : ∀ r ∈ rs, ∃ ops c, ActIs h.size h r ops c)
    (hQ : ∀ h', Ext h h' → Q true h') : law07_WalPlays.C room s Q h := by
  apply law07_WalPlays.ok
  unfold law07_WalPlays.F
  have h9 := ht.size
  have hs := hv.sees
  refine great_spec hs ha fun g h1 u1 hg => ?_
  refine ifB_of (fun _ => awake_spec (ht.ext u1) fun h2 u2 => hQ h2 (u1.trans u2)) (fun hgf => ?_)
  obtain ⟨h80, hall⟩ := hg hgf
  have hz1 := u1.size
  refine new_spec (B := h.size) hz1 fun d h2 P2 u2 => ?_
  have hz2 := u2.size
  refine rnew_spec (B := h.size) (by omega) fun w h3 R3 u3 => ?_
  have u03 := (u1.trans u2).trans u3
  have hlen := hs.len
  refine ⟨fun p n b _ i h' => ∃ (t : Nat) (A : DiskA) (at_ : Option Nat), i = (t : Int) ∧ n = ((at_.getD 0 : Nat) : Int) ∧ b = at_.isSome ∧ t ≤ rs.length ∧ PD h.size d A h' ∧ RD h.size w A h' ∧ LogIs p at_ d h' ∧ (∀ m, at_ = some m → m < 18446744073709551616) ∧ Bd t (200 * t) A ∧ Keep h.size MA h h', fun _ _ _ _ i _ => rs.length - i.toNat,
    ⟨0, newD room, none, rfl, rfl, rfl, by omega, P2.ext u3, R3, rfl, (fun m hm => by cases hm), Bd.new room, u03.keep _ _⟩, ?_⟩
  rintro ⟨p, n, b, jb, i, _⟩ h4 ⟨t, A, at_, hi, hn, hb, htl, P4, R4, L4, hat, bd, k4⟩
  dsimp only at hi hn hb P4 R4 L4 k4
  subst hi hn hb
  dsimp only [unc]
  have hz4 := k4.size
  have t4 : Tabs h4 := ht.keep h9 k4
  have s4 : Sees 11 encRA h4 s rs := (hv.keep k4 (Nat.le_refl _) fun _ => rfl).sees
  refine ifB_of (fun hc => ?_) (fun hc => ?_)
  · have ht1 : t < rs.length := by have := of_decide_eq_true hc; omega
    have hget := List.getElem?_eq_getElem ht1
    obtain ⟨ops, cr, AI⟩ := ha rs[t] (List.getElem_mem ht1)
    have sm := hall rs[t] (List.getElem_mem ht1) ops cr AI
    generalize rs[t] = r at hget AI sm
    have AI4 : ActIs h.size h4 r ops cr := AI.keepB k4 (fun _ => rfl) (fun _ => rfl) fun _ => rfl
    have lda : ∀ {h5 : Heap} {F : Shal.Fn [.int .u8, .int .u64, .int .u64, .slice, .int .u8, .str, .str, .int .i64, .int .i64, .slice, .slice]} {a : Addr}, (∀ j v, (encRA r)[j]? = some v → hcell h5 (a.add j) = some v) →
        F (r.do_ : Int) (r.n : Int) (r.seq : Int) r.ops (r.do5 : Int) r.a r.b r.n5 r.names r.ks r.ss h5 → lds [.int .u8, .int .u64, .int .u64, .slice, .int .u8, .str, .str, .int .i64, .int .i64, .slice, .slice] a F h5 := fun hc hk =>
      lds_at (l := [.int .u8, .int .u64, .int .u64, .slice, .int .u8, .str, .str, .int .i64, .int .i64, .slice, .slice]) ((r.do_ : Int), (r.n : Int), (r.seq : Int), r.ops, (r.do5 : Int), r.a, r.b, r.n5, r.names, r.ks, r.ss, ()) hc hk
    refine Sees.idx encRA_len s4 rfl hget fun a ha' => ?_
    refine lda ha' ?_
    refine doesW_spec P4 L4 t4 hz4 h9 AI4 sm bd (by omega) (by omega) fun p5 s5 h5 P5 L5 b5 k5 => ?_
    have k45 := k4.trans (MA_P k5)
    have hz5 := k45.size
    refine Sees.idx encRA_len (hv.keep k45 (Nat.le_refl _) fun _ => rfl).sees rfl hget fun a ha' => ?_
    refine lda ha' ?_
    refine saidW_spec (R4.other k5) hat hz5 (AI.keepB k45 (fun _ => rfl) (fun _ => rfl) fun _ => rfl) sm bd (by omega) (by omega) fun s6 h6 R6 b6 k6 => ?_
    have k46 := k45.trans (MA_R k6)
    have bd6 := bd.actW at_ (actW r ops cr)
    have hbn := bd.now
    have hbl6 : (A.actW at_ (actW r ops cr)).1.2.1.length ≤ 32768 * A.now.length := by
      obtain ⟨_, _, _, _, _, _, ok⟩ := P4
      exact actW_len ok
    have hat6 := Bd.begin_lt (A := A) (at_ := at_) AI hat
    have P6 := P5.other k6
    have L6 := L5.keep k6 (fun _ => rfl)
    have b56 := b5.keep k6 (fun _ => rfl) (fun _ => rfl)
    generalize A.actW at_ (actW r ops cr) = res at *
    obtain ⟨⟨at6, bss, e6⟩, A6⟩ := res
    dsimp only at P6 R6 L6 b56 b6 bd6 hat6 hbl6 ⊢
    obtain ⟨raw5, B5⟩ := b56.bats
    obtain ⟨raw6, B6⟩ := b6.bats
    refine join_b false (fun h' => Ext h6 h') ?_ ?_
    · rw [ifB_of_false (by simp)]
      have hbl : bss.length < 4611686018427387904 := by omega
      refine lsame_spec B5 B6 hbl fun h7 u7 => ?_
      rw [ifB_of_false (by simp)]
      refine num_log (L6.keep (u7.keep 0 none_) (fun _ => rfl)) ?_
      rw [ifB_of_false (by simp)]
      refine stands_spec (P6.ext u7) (R6.ext u7) bd6 (by omega) fun h8 u8 => ?_
      exact ⟨rfl, u7.trans u8⟩
    · intro h7 u7
      rw [ifB_of_false rfl, wi (by omega) (by omega)]
      exact ⟨⟨t + 1, A6, at6, rfl, rfl, rfl, by omega, P6.ext u7, R6.ext u7, L6.keep (u7.keep 0 none_) (fun _ => rfl), hat6, bd6.mono (Nat.le_refl _) (by omega), k46.trans (u7.keep _ _)⟩, (show rs.length - ((t : Int) + 1).toNat < rs.length - ((t : Nat) : Int).toNat by omega)⟩
  · have hnow := bd.now
    refine logs_spec P4 t4 (by omega) fun s5 h5 o5 u5 => ?_
    refine rlogs_spec (R4.ext u5) (by omega) fun s6 h6 o6 u6 => ?_
    have o56 := o5.ext u6
    have e5 := o5.len
    have e6 := o6.len
    have k6 : Keep h.size MA h h6 := (k4.trans (u5.keep _ _)).trans (u6.keep _ _)
    have t6 := ht.keep h9 k6
    rw [ifB_of_false (by rw [e5, e6]; simp)]
    have hll := logs_len A
    generalize A.logs = L at o56 o6 e5 e6 hll
    refine ⟨fun _ i h' => ∃ m : Nat, i = (m : Int) ∧ m ≤ L.length ∧ h' = h6, fun _ i _ => L.length - i.toNat, ⟨0, rfl, by omega, rfl⟩, ?_⟩
    rintro ⟨_, i, _⟩ h7 ⟨m, hi, hm, hh⟩
    dsimp only at hi hh
    subst hi hh
    dsimp only [unc]
    refine ifB_of (fun hc => ?_) (fun hc => awake_spec t6 fun h8 u8 => hQ h8 ((keep_ext k6).trans u8))
    have hm1 : m < L.length := by have := of_decide_eq_true hc; omega
    have hgl := List.getElem?_eq_getElem hm1
    refine draw_ext ?_
    refine Sees.idx (enc := enc64) (fun _ => rfl) (Own.sees (enc := enc64) (k := 1) (fun _ => rfl) o56) rfl hgl fun a ha' => ?_
    refine ldG_ext (s := .int .u64) (x := (L[m] : Int)) (ha' 0 _ rfl) ?_
    refine Sees.idx (enc := enc64) (fun _ => rfl) (Own.sees (enc := enc64) (k := 1) (fun _ => rfl) o6) rfl hgl fun a ha' => ?_
    refine ldG_ext (s := .int .u64) (x := (L[m] : Int)) (ha' 0 _ rfl) ?_
    rw [ifB_of_false (by simp), wi (by omega) (by omega)]
    exact ⟨⟨m + 1, rfl, by omega, rfl⟩, (show L.length - ((m : Int) + 1).toNat < L.length - ((m : Nat) : Int).toNat by omega)⟩
end Go.Proofs.W
end
