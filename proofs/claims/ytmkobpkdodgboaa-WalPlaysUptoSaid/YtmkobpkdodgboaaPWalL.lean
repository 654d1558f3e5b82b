/- A device, a log on it, and what was done: as the laws of layer 6 keep them. Layer 6's awake. -/
import Derived.Test.YtmkobpkdodgboaaPWalP
import Derived.Test.YtmkobpkdodgboaaPTexts
namespace Go.Proofs.Ytmkobpkdodgboaa
open Go D
set_option linter.unusedVariables false
set_option linter.unusedSimpArgs false
namespace Wal
open Disk Enc Hash Snap

/-- a device, the list of what was done; Q: other blocks that are written -/
def DSt (h0 h : Heap) (p : Nat) (m : M) (Q : Nat → Prop) (d : Sl) (fs : List (List ByteArray)) : Prop := ∃ mu im vs, Disk.Rep h p mu im m ∧ (∀ y, mu y ∨ im y → h0.size ≤ y ∧ ¬ Q y) ∧ SlR h 1 d.a d.len d.cap vs ∧ FsB h (fun b => b < h0.size) vs fs ∧
  (∀ b, blk d.a b → h0.size ≤ b ∧ ¬ mu b ∧ ¬ im b ∧ ¬ Q b) ∧ Keep (fun y => h0.size ≤ y) h0 h ∧ (∀ f ∈ fs, f.length ≤ 1048576)

theorem DSt.kp {h0 h : Heap} {p : Nat} {m : M} {Q : Nat → Prop} {d : Sl} {fs : List (List ByteArray)} (ds : DSt h0 h p m Q d fs) : Keep (fun y => h0.size ≤ y) h0 h := by
  obtain ⟨_, _, _, _, _, _, _, _, k, _⟩ := ds
  exact k
theorem DSt.out {h0 h : Heap} {p : Nat} {m : M} {Q : Nat → Prop} {d : Sl} {fs : List (List ByteArray)} (ds : DSt h0 h p m Q d fs) : Keep (fun _ => False) h0 h := ds.kp.mono (fun y hy hh => by have : h0.size ≤ y := hh; omega)
theorem DSt.keep {h0 h h' : Heap} {p : Nat} {m : M} {Q : Nat → Prop} {d : Sl} {fs : List (List ByteArray)} (ds : DSt h0 h p m Q d fs) (hk : Keep (fun _ => False) h h') : DSt h0 h' p m Q d fs := by
  obtain ⟨mu, im, vs, r, q1, sl, fb, q2, k, q3⟩ := ds
  exact ⟨mu, im, vs, r.keep hk (fun _ _ h => h) (fun _ _ h => h), q1, sl.keep hk (fun _ _ h => h), fb.keep hk (fun _ _ _ h => h), q2, k.trans hk (fun _ _ h => h.elim), q3⟩
theorem DSt.size {h0 h : Heap} {p : Nat} {m : M} {Q : Nat → Prop} {d : Sl} {fs : List (List ByteArray)} (ds : DSt h0 h p m Q d fs) : d.len = fs.length := by
  obtain ⟨mu, im, vs, r, q1, sl, fb, q2, k, q3⟩ := ds
  have := sl.len
  have := fb.1
  omega
theorem DSt.swap {h0 h h' : Heap} {p : Nat} {m : M} {Q Q' : Nat → Prop} {d : Sl} {fs : List (List ByteArray)} (ds : DSt h0 h p m Q d fs) (hk : Keep (fun _ => False) h h') (hq : ∀ b, Q' b → h.size ≤ b) : DSt h0 h' p m Q' d fs := by
  obtain ⟨mu, im, vs, r, q1, sl, fb, q2, k, q3⟩ := ds
  refine ⟨mu, im, vs, r.keep hk (fun _ _ h => h) (fun _ _ h => h), fun y hy => ⟨(q1 y hy).1, fun hh => by have := hq y hh; have := r.lt y hy; omega⟩, sl.keep hk (fun _ _ h => h), fb.keep hk (fun _ _ _ h => h), fun b hb => ⟨(q2 b hb).1, (q2 b hb).2.1, (q2 b hb).2.2.1, fun hh => by have := hq b hh; have := sl.blk_lt hb; omega⟩, k.trans hk (fun _ _ h => h.elim), q3⟩

/-- the device goes on -/
theorem DSt.go {h0 h h' : Heap} {p : Nat} {m' : M} {Q S : Nat → Prop} {d : Sl} {fs : List (List ByteArray)} {mu im mu' im' : Nat → Prop} {vs : List Value} (q1 : ∀ y, mu y ∨ im y → h0.size ≤ y ∧ ¬ Q y) (sl : SlR h 1 d.a d.len d.cap vs) (fb : FsB h (fun b => b < h0.size) vs fs)
    (q2 : ∀ b, blk d.a b → h0.size ≤ b ∧ ¬ mu b ∧ ¬ im b ∧ ¬ Q b) (k : Keep (fun y => h0.size ≤ y) h0 h) (q3 : ∀ f ∈ fs, f.length ≤ 1048576) (hQ : ∀ b, Q b → b < h.size ∧ h0.size ≤ b) (hS : ∀ b, S b → mu b ∨ Q b)
    (r : Disk.Rep h' p mu' im' m') (hk : Keep S h h') (g : Grew h mu im mu' im') : DSt h0 h' p m' Q d fs := by
  have z := k.size
  have S0 : ∀ b, S b → h0.size ≤ b := fun b hb => by
    rcases hS b hb with hh | hh
    · exact (q1 b (.inl hh)).1
    · exact (hQ b hh).2
  have nS : ∀ b, blk d.a b → ¬ S b := fun b hb hh => by
    rcases hS b hh with hh | hh
    · exact (q2 b hb).2.1 hh
    · exact (q2 b hb).2.2.2 hh
  refine ⟨mu', im', vs, r, fun y hy => ?_, sl.keep hk nS, fb.keep hk (fun b _ hb hh => by have := S0 b hh; omega), fun b hb => ?_, k.trans hk (fun y _ hy => S0 y hy), q3⟩
  · rcases hy with hy | hy
    · rcases g.1 y hy with hh | hh
      · exact q1 y (.inl hh)
      · exact ⟨by omega, fun hq => by have := (hQ y hq).1; omega⟩
    · rcases g.2 y hy with hh | hh
      · exact q1 y (.inr hh)
      · exact ⟨by omega, fun hq => by have := (hQ y hq).1; omega⟩
  · have hb' := sl.blk_lt hb
    refine ⟨(q2 b hb).1, fun hm => ?_, fun hm => ?_, (q2 b hb).2.2.2⟩
    · rcases g.1 b hm with hh | hh
      · exact (q2 b hb).2.1 hh
      · omega
    · rcases g.2 b hm with hh | hh
      · exact (q2 b hb).2.2.1 hh
      · omega

theorem DSt.append {h0 h : Heap} {p q : Nat} {m : M} {L : Lg} {d : Sl} {fs : List (List ByteArray)} (ds : DSt h0 h p m (· = q) d fs) (ho : Row h q (LRow p L)) (hq : h0.size ≤ q) (hc : m.c.length ≤ 800000) (g0 : 0 ≤ L.fr) (g1 : 0 ≤ L.pos) (g3 : L.fr ≤ 100000 ∧ L.pos ≤ 100000) (g4 : -100000 ≤ L.n ∧ L.n ≤ 10000) (g5 : L.nx ≤ 1000000)
    {a : Option Addr} {l c : Nat} {rs : List ByteArray} (ht : Ts h a l rs) (hb : (packL rs).length ≤ 8796093022208) {R : Int → Heap → Prop}
    (hk : ∀ h', DSt h0 h' p (appM m L rs).2.1 (· = q) d fs → Row h' q (LRow p (appM m L rs).2.2) → R (appM m L rs).1 h') :
    CallT Try.prog wal_Log_Append_no [.pointer (some ⟨q, 0, none⟩), .slice a l c] h [.sc (.int .i64)] R := by
  obtain ⟨mu, im, vs, r, q1, sl, fb, q2, k, q3⟩ := ds
  refine append_spec r hc ho ⟨fun hm => (q1 q (.inl hm)).2 rfl, fun hm => (q1 q (.inr hm)).2 rfl⟩ g0 g1 g3 g4 g5 ht (by omega) ?_
  intro mu' im' h' r' o' k' g'
  have hql := ho.lt
  exact hk h' (DSt.go q1 sl fb q2 k q3 (fun b hb => by have hb' : b = q := hb; omega) (fun b hb => hb) r' k' g') o'

theorem DSt.open {h0 h : Heap} {p : Nat} {m : M} {Q : Nat → Prop} {d : Sl} {fs : List (List ByteArray)} (ds : DSt h0 h p m Q d fs) (hc : m.c.length ≤ 1000000) {fr n : Int} (hok : okR m.l.length fr n) (hst : m.st ≠ 2) {e : Nat} {R : (Option Addr) × Sl × Int → Heap → Prop}
    (hk : ∀ q s h', h.size ≤ q → Row h' q (LRow p (openM m fr n e).1) → Fs h' (fun b => q < b) s.a s.len (openM m fr n e).2 → Keep (fun _ => False) h h' → R (some ⟨q, 0, none⟩, s, 0) h') :
    CallT Try.prog wal_Open_no [.pointer (some ⟨p, 0, none⟩), .int .i64 fr, .int .i64 n, .int .u64 (e : Int)] h [.sc .ptr, .sc .sl, .sc (.int .i64)] R := by
  obtain ⟨mu, im, vs, r, q1, sl, fb, q2, k, q3⟩ := ds
  have hle := r.le
  have hok' := hok
  obtain ⟨o1, o2, o3, o4⟩ := hok'
  exact open_spec r hc (by unfold InI; omega) (by unfold InI; omega) (fun hb => absurd hok hb) (fun _ hd => absurd hd hst) (fun _ _ q s h' z o f _ k => hk q s h' z o f k)

theorem DSt.fuse {h0 h : Heap} {p : Nat} {m : M} {Q : Nat → Prop} {d : Sl} {fs : List (List ByteArray)} (ds : DSt h0 h p m Q d fs) (hQ : ∀ b, Q b → b < h.size ∧ h0.size ≤ b) {f : Int} (hf : InI f) {R : Unit → Heap → Prop}
    (hk : ∀ h', DSt h0 h' p (fuse m f) Q d fs → (∀ q cs, Q q → Row h q cs → Row h' q cs) → R () h') : CallT Try.prog disk_Dev_Fuse_no [.pointer (some ⟨p, 0, none⟩), .int .i64 f] h [] R := by
  obtain ⟨mu, im, vs, r, q1, sl, fb, q2, k, q3⟩ := ds
  refine fuse_spec r hf ?_
  intro h' r' k' s'
  have k'' : Keep mu h h' := k'.mono (fun y _ hy => by
    have : y = p := hy
    rw [this]; exact r.own)
  exact hk h' (DSt.go q1 sl fb q2 k q3 hQ (fun b hb => .inl hb) r' k'' (.same _ _ _)) (fun q cs hq hr => k''.row hr (fun hm => (q1 q (.inl hm)).2 hq))

theorem DSt.crash {h0 h : Heap} {p : Nat} {m : M} {Q : Nat → Prop} {d : Sl} {fs : List (List ByteArray)} (ds : DSt h0 h p m Q d fs) (hQ : ∀ b, Q b → b < h.size ∧ h0.size ≤ b) (hc : m.c.length ≤ 1000000) {a : Option Addr} {l c : Nat} {ks : List Bool} (hks : BoolsIs h a l ks) (hfar : 0 < l → ∀ b, blk a b → b < h0.size) {R : Unit → Heap → Prop}
    (hk : ∀ h', DSt h0 h' p (crash m ks) Q d fs → R () h') : CallT Try.prog disk_Dev_Crash_no [.pointer (some ⟨p, 0, none⟩), .slice a l c] h [] R := by
  obtain ⟨mu, im, vs, r, q1, sl, fb, q2, k, q3⟩ := ds
  refine crash_spec r hc hks (fun h0' b hb hm => by have := hfar h0' b hb; have := (q1 b (.inl hm)).1; omega) ?_
  intro h' r' k'
  exact hk h' (DSt.go q1 sl fb q2 k q3 hQ (fun b hb => .inl hb) r' k' (.same _ _ _))

theorem DSt.push {h0 h : Heap} {p : Nat} {m : M} {Q : Nat → Prop} {d : Sl} {fs : List (List ByteArray)} (ds : DSt h0 h p m Q d fs) (hQ : ∀ b, Q b → b < h.size) {a : Option Addr} {l c : Nat} {rs : List ByteArray} (ht : TsB h (fun b => b < h0.size) a l rs) (hl : l ≤ 1048576) (hd : d.len ≤ 1000000) {K : Option Addr → Nat → Heap → Prop}
    (hk : ∀ o c' h', DSt h0 h' p m Q ⟨o, d.len + 1, c'⟩ (fs ++ [rs]) → (∀ q cs, Q q → Row h q cs → Row h' q cs) → Keep (blk d.a) h h' → K o c' h') :
    newB [.slice a l c] 50 h fun a1 h1 => ldRow (1 * 1) a1 h1 fun cs => app [.slice none 0 0] 50 1 24 d.a d.len d.cap cs 1 h1 K := by
  obtain ⟨mu, im, vs, r, q1, sl, fb, q2, k, q3⟩ := ds
  refine newB_row ?_
  intro h1 s1 o1 k1
  refine ldRow_row o1 (by simp) ?_
  refine (sl.keep k1 (fun _ _ h => h)).app rfl (by simp) (fun v hv => by simp at hv; subst hv; rfl) (by omega) ?_
  intro a2 c2 h2 v1 v2 v3
  have z := k.size
  have k2 : Keep (blk d.a) h h2 := (k1.mono (T := blk d.a) (fun _ _ h => h.elim)).trans v2 (fun _ _ h => h)
  refine hk a2 c2 h2 ⟨mu, im, vs ++ [.slice a l c], r.keep k2 (fun b hb hh => (q2 b hh).2.1 hb) (fun b hb hh => (q2 b hh).2.2.1 hb), q1, v1, ?_, fun b hb => ?_, k.trans k2 (fun y _ hy => (q2 y hy).1), fun f hf => ?_⟩ (fun q cs hq hr => k2.row hr (fun hh => (q2 q hh).2.2.2 hq)) k2
  · refine (fb.keep k2 (fun b _ hb hh => by have := (q2 b hh).1; omega)).snoc ⟨a, l, c, rfl, ht.keep k2 (fun b _ hb hh => by have := (q2 b hh).1; omega)⟩
  · rcases v3 with ⟨rfl, _⟩ | ⟨rfl, _⟩
    · exact q2 b hb
    · rw [blk_some] at hb
      have hz : h1.size = h.size + 1 := s1
      have hb' : b = h1.size := by simp only at hb; omega
      refine ⟨by omega, fun hm => by have := r.lt b (.inl hm); omega, fun hm => by have := r.lt b (.inr hm); omega, fun hq => by have := hQ b hq; omega⟩
  · rcases List.mem_append.1 hf with hf | hf
    · exact q3 f hf
    · simp only [List.mem_singleton] at hf
      subst hf
      have := ht.1.len
      omega

/-- what was done, compared -/
theorem DSt.frames {h0 h : Heap} {p : Nat} {m : M} {Q B : Nat → Prop} {d : Sl} {fs fs' : List (List ByteArray)} (ds : DSt h0 h p m Q d fs) {a : Option Addr} {l c : Nat} (hf : Fs h B a l fs') (hl : ∀ f ∈ fs', f.length ≤ 1048576) (hn : fs'.length ≤ 1000000) {R : Bool → Heap → Prop} (hk : R (decide (fs' = fs)) h) :
    CallT Try.prog law6_frames_no [.slice a l c, .slice d.a d.len d.cap] h [.sc .bool] R := by
  obtain ⟨mu, im, vs, r, q1, sl, fb, q2, k, q3⟩ := ds
  have e := hf.len
  exact frames_spec (B := fun _ => True) hf ⟨vs, SlR.rv sl, fun _ _ _ => trivial, fb.mono (fun _ _ _ => trivial)⟩ (by omega) (fun f hh => by have := hl f hh; omega) hk

/-! ### layer 6's awake -/
def m8 : M := ⟨List.replicate (8 : Int).toNat (noughts 256), [], 0, 0⟩
theorem aw1 : openM m8 2 4 0 = (lg0 2 4 0, []) := by decide +kernel
theorem aw2 : (appM m8 (lg0 2 4 0) [⟨#[97]⟩]).1 = 0 ∧ (appM m8 (lg0 2 4 0) [⟨#[97]⟩]).2.2 = ⟨2, 4, 0, 1, 1, false⟩ := by decide +kernel
theorem aw3 : secs (packL [⟨#[97]⟩]).length = 1 := by decide +kernel

theorem awake_spec {h : Heap} {R : Bool → Heap → Prop} (hk : ∀ h', Keep (fun _ => False) h h' → R true h') : CallT Try.prog law6_awake_no [] h [.sc .bool] R := by
  apply law6_awake_call
  simp only [law6_awake]
  refine new_spec (by unfold InI; omega) (fun hb => by omega) ?_
  intro _ _ p mu im h1 hnew hr hk1
  have ds : DSt h h1 p m8 (fun _ => False) ⟨none, 0, 0⟩ [] := ⟨mu, im, [], hr, fun y hy => ⟨hnew y hy, fun h => h⟩, SlR.nil _ _, FsB.nil _ _, (fun b hb => by obtain ⟨x, hx, _⟩ := hb; cases hx), hk1.mono (fun _ _ h => h.elim), fun f hf => by cases hf⟩
  refine DSt.open (e := 0) ds (by show [].length ≤ _; simp) (by decide) (by decide) ?_
  intro q s h2 hq o2 f2 k2
  replace o2 : Row h2 q (LRow p (lg0 2 4 0)) := (congrArg (fun r : Lg × List (List ByteArray) => Row h2 q (LRow p r.1)) aw1).mp o2
  replace f2 : Fs h2 (fun b => q < b) s.a s.len [] := (congrArg (fun r : Lg × List (List ByteArray) => Fs h2 (fun b => q < b) s.a s.len r.2) aw1).mp f2
  have hz1 := hk1.size
  have ds2 := ds.swap (Q' := (· = q)) k2 (fun b hb => by have hb' : b = q := hb; omega)
  have hs2 := f2.len
  refine withJ.inl (withJ.inl ?_)
  refine cnd_f rfl (cnd_f rfl ?_)
  refine newB_row ?_
  intro h3 s3 o3 k3
  have ds3 := ds2.keep k3
  have t3 : Ts h3 (some ⟨h2.size, 0, none⟩) 1 [⟨#[97]⟩] := SlR.rv (c := 1) (.inr ⟨h2.size, 0, _, rfl, o3, by simp, by simp, by simp, by simp⟩)
  refine DSt.append ds3 (k3.row o2 (fun h => h)) (by omega) (by show [].length ≤ _; simp) (by decide) (by decide) (by decide) (by decide) (by decide) t3 (by decide +kernel) ?_
  intro h4 ds4 o4
  rw [aw2.2] at o4
  rw [aw2.1]
  refine withJ.inl ?_
  refine cnd_t (by rw [hs2]; rfl) (cnd_t rfl ?_)
  refine next_spec o4 ?_
  refine cnd_t rfl ?_
  refine room_spec o4 (by decide) ?_
  refine cnd_t rfl ?_
  refine newB_row ?_
  intro h5 s5 o5 k5
  have t5 : Ts h5 (some ⟨h4.size, 0, none⟩) 1 [⟨#[97]⟩] := SlR.rv (c := 1) (.inr ⟨h4.size, 0, _, rfl, o5, by simp, by simp, by simp, by simp⟩)
  refine need_spec t5 (by decide +kernel) (by decide) ?_
  rw [aw3]
  exact hk h5 (ds4.keep k5).out

end Wal
end Go.Proofs.Ytmkobpkdodgboaa
