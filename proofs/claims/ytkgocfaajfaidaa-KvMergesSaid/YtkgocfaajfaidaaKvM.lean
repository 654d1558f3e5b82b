/- KvMerges. -/
import Derived.Test.YtkgocfaajfaidaaKvJ
namespace Go.Proofs.Ytkgocfaajfaidaa
open Go D
set_option linter.unusedVariables false
set_option linter.unusedSimpArgs false
namespace Kv
open Wal (packL unpackL Holds appM lg0 Lg secs LRow)
open Snap (KT fitsM saveM loadM okAt)
open Disk (M readAt crash)

/-- all that a store is read from -/
def Vf (mu im F : Nat → Prop) (s g b : Nat) : Prop := mu b ∨ im b ∨ F b ∨ b = s ∨ b = g
theorem At.vlt {h : Heap} {mu im F : Nat → Prop} {d s g t : Nat} {x : St} (ha : At h mu im F d s g t x) : ∀ b, Vf mu im F s g b → b < h.size := fun b hb => by
  rcases hb with hb | hb | hb | hb | hb
  · exact ha.dev.lt b (.inl hb)
  · exact ha.dev.lt b (.inr hb)
  · exact (ha.f b hb).1
  · rw [hb]; exact ha.lts.1
  · rw [hb]; exact ha.lts.2
theorem At.far {h h' : Heap} {mu im F S : Nat → Prop} {d s g t : Nat} {x : St} (ha : At h mu im F d s g t x) (hk : Keep S h h') (hS : ∀ b, Vf mu im F s g b → ¬ S b) : At h' mu im F d s g t x :=
  ha.keep hk (fun b hb => hS b (.inl hb)) (fun b hb => hS b (.inr (.inl hb))) (fun b hb => hS b (.inr (.inr (.inl hb)))) (hS s (.inr (.inr (.inr (.inl rfl))))) (hS g (.inr (.inr (.inr (.inr rfl)))))
/-- two stores on two devices -/
structure Two (h : Heap) (d s : Nat) (x : St) (d2 s2 : Nat) (y : St) (B : Nat) : Prop where
  ex : ∃ mu im F g t mu2 im2 F2 g2 t2, At h mu im F d s g t x ∧ At h mu2 im2 F2 d2 s2 g2 t2 y ∧ (∀ b, Vf mu im F s g b → ¬ Vf mu2 im2 F2 s2 g2 b) ∧ (∀ b, Wr mu s g b → B ≤ b) ∧ (∀ b, Wr mu2 s2 g2 b → B ≤ b)
  i1 : Inv x
  i2 : Inv y
  st : x.m.st = 0 ∧ y.m.st = 0
theorem wr_vf {mu im F : Nat → Prop} {s g b : Nat} (h : Wr mu s g b) : Vf mu im F s g b := by
  rcases h with h | h | h
  · exact .inl h
  · exact .inr (.inr (.inr (.inl h)))
  · exact .inr (.inr (.inr (.inr h)))
theorem Two.swap {h : Heap} {d s : Nat} {x : St} {d2 s2 : Nat} {y : St} {B : Nat} (ht : Two h d s x d2 s2 y B) : Two h d2 s2 y d s x B := by
  obtain ⟨mu, im, F, g, t, mu2, im2, F2, g2, t2, a1, a2, dj, w1, w2⟩ := ht.ex
  exact ⟨⟨mu2, im2, F2, g2, t2, mu, im, F, g, t, a2, a1, fun b h1 h2 => dj b h2 h1, w2, w1⟩, ht.i2, ht.i1, ht.st.2, ht.st.1⟩
theorem Two.nw {h h' : Heap} {d s : Nat} {x : St} {d2 s2 : Nat} {y : St} {B : Nat} (ht : Two h d s x d2 s2 y B) (hk : Nw h h') : Two h' d s x d2 s2 y B := by
  obtain ⟨mu, im, F, g, t, mu2, im2, F2, g2, t2, a1, a2, dj, w1, w2⟩ := ht.ex
  exact ⟨⟨mu, im, F, g, t, mu2, im2, F2, g2, t2, a1.nw hk, a2.nw hk, dj, w1, w2⟩, ht.i1, ht.i2, ht.st⟩

/-- a commit in the first of two, that must go well -/
theorem Two.commit {h : Heap} {d s : Nat} {x : St} {d2 s2 : Nat} {y : St} {B : Nat} (ht : Two h d s x d2 s2 y B) (hB : B ≤ h.size) (hE : x.E < 999999999) (hn : x.n < 999999999) {a : Option Addr} {l c : Nat} {cs : List Ch} (hcs : Chs h a l cs) (hl : l ≤ 4000000000000)
    (hm : ∀ c ∈ cs, mayC c = true) (hf : 12 + szL (addC x.l cs) + 256 ≤ 256 * x.q) (hs : secs (packL (recsL cs)).length ≤ 2 * x.q) {R : Int → Heap → Prop}
    (hk : ∀ x' h', Two h' d s x' d2 s2 y B → x'.l = addC x.l cs → x'.n = x.n + 1 → x'.q = x.q → x'.E ≤ x.E + 1 → Keep (fun b => B ≤ b) h h' → R 0 h') : CallT Try.prog kv_Store_Commit_no [.pointer (some ⟨s, 0, none⟩), .slice a l c] h [.sc (.int .i64)] R := by
  obtain ⟨mu, im, F, g, t, mu2, im2, F2, g2, t2, a1, a2, dj, w1, w2⟩ := ht.ex
  refine commit_spec a1 ht.i1 hE hn hcs hl (fun hno => absurd hm hno) ?_ ?_ ?_
  · intro _ hbad
    exfalso
    rcases hbad with hb | hb
    · rw [fits_small hf] at hb; cases hb
    · omega
  · intro _ mu' im' F' g' t' x' h' a' i' eq el en _ e2 est _ st
    refine hk x' h' ⟨⟨mu', im', F', g', t', mu2, im2, F2, g2, t2, a', a2.far st.keep (fun b hb hw => dj b (wr_vf hw) hb), fun b h1 h2 => ?_, fun b hb => ?_, w2⟩, i', ht.i2, est ht.st.1, ht.st.2⟩ el en eq e2 (st.keep.mono (fun b _ hb => w1 b hb))
    · have lt2 := a2.vlt b h2
      rcases h1 with h1 | h1 | h1 | h1 | h1
      · rcases st.gm b h1 with q | q
        · exact dj b (.inl q) h2
        · omega
      · rcases st.gi b h1 with q | q
        · exact dj b (.inr (.inl q)) h2
        · omega
      · rcases st.gF b h1 with q | q
        · exact dj b (.inr (.inr (.inl q))) h2
        · omega
      · exact dj b (.inr (.inr (.inr (.inl h1)))) h2
      · rcases st.gg with q | q
        · exact dj b (.inr (.inr (.inr (.inr (h1.trans q))))) h2
        · omega
    · rcases hb with hb | hb | hb
      · rcases st.gm b hb with q | q
        · exact w1 b (.inl q)
        · omega
      · exact w1 b (.inr (.inl hb))
      · rcases st.gg with q | q
        · exact w1 b (.inr (.inr (hb.trans q)))
        · omega
  · intro hst; exact absurd ht.st.1 hst
theorem Two.pairs {h : Heap} {d s : Nat} {x : St} {d2 s2 : Nat} {y : St} {B : Nat} (ht : Two h d s x d2 s2 y B) {R : Sl → Heap → Prop} (hk : ∀ r h2, Nw h h2 → Pr h2 r x.l → R r h2) : CallT Try.prog law9_pairs_no [.pointer (some ⟨s, 0, none⟩)] h [.sc .sl] R := by
  obtain ⟨mu, im, F, g, t, mu2, im2, F2, g2, t2, a1, _⟩ := ht.ex
  have := ht.i1.szl; have := szL_len x.l
  exact pairs_spec a1 (by omega) (fun r h2 n2 o2 => hk r h2 n2 o2.pr)
theorem Two.commits {h : Heap} {d s : Nat} {x : St} {d2 s2 : Nat} {y : St} {B : Nat} (ht : Two h d s x d2 s2 y B) {R : Int → Heap → Prop} (hk : R (x.n : Int) h) : CallT Try.prog kv_Store_Commits_no [.pointer (some ⟨s, 0, none⟩)] h [.sc (.int .i64)] R := by
  obtain ⟨mu, im, F, g, t, mu2, im2, F2, g2, t2, a1, _⟩ := ht.ex
  exact commits_spec a1 hk

/-- a change as KvMerges lets it in -/
def okM (c : Ch) : Prop := 1 ≤ c.1.size ∧ c.1.size ≤ 100 ∧ c.2.1.size ≤ 600 ∧ (c.2.2 = true → c.2.1 = nok)
theorem okM_may {c : Ch} (h : okM c) : mayC c = true := mayC_iff.2 ⟨by have := h.1; omega, by have := h.2.1; omega, by have := h.2.2.1; omega, h.2.2.2⟩
theorem ins_sz (k v : Key) : ∀ l : List KV, szL (insKV k v l) ≤ szL l + (8 + k.size + v.size)
  | [] => by simp [insKV, szL]
  | (a, x) :: r => by
    have ih := ins_sz k v r
    unfold insKV
    split
    · simp only [szL]; omega
    · split <;> simp only [szL] <;> omega
theorem del_sz (k : Key) : ∀ l : List KV, szL (delKV k l) ≤ szL l
  | [] => Nat.le_refl _
  | (a, x) :: r => by
    have ih := del_sz k r
    unfold delKV at ih ⊢
    rw [List.filter_cons]
    split <;> simp only [szL] <;> omega
theorem app_sz {c : Ch} (h : okM c) (l : List KV) : szL (appC c l) ≤ szL l + 708 := by
  unfold appC withKV
  split
  · have := del_sz c.1 l; omega
  · have := ins_sz c.1 c.2.1 l
    obtain ⟨h1, h2, h3, _⟩ := h
    omega
theorem add_sz : ∀ {cs : List Ch} {l : List KV}, (∀ c ∈ cs, okM c) → szL (addC l cs) ≤ szL l + 708 * cs.length
  | [], l, _ => Nat.le_refl _
  | c :: cs, l, h => by
    have ih := add_sz (cs := cs) (l := appC c l) (fun x hx => h x (by simp [hx]))
    have := app_sz (h c (by simp)) l
    show szL (addC (appC c l) cs) ≤ _
    simp only [List.length_cons]; omega
theorem recM_le : ∀ {cs : List Ch}, (∀ c ∈ cs, okM c) → (packL (recsL cs)).length ≤ 717 * cs.length
  | [], _ => Nat.le_refl _
  | c :: cs, h => by
    have ih := recM_le (cs := cs) (fun x hx => h x (by simp [hx]))
    have hc : (packL (recL c)).length ≤ 713 := by
      obtain ⟨h1, h2, h3, h4⟩ := h c (by simp)
      unfold recL
      split
      · rw [packL_len_cons, packL_len_cons, packL_nil]
        show 4 + 1 + _ ≤ _
        simp; omega
      · rw [packL_len_cons, packL_len_cons, packL_len_cons, packL_nil]
        show 4 + 1 + _ ≤ _
        simp; omega
    show (packL (recS c :: recsL cs)).length ≤ _
    rw [packL_len_cons]
    have : (recS c).size = (packL (recL c)).length := Snap.ofL_size _
    simp only [List.length_cons]; omega

theorem two_new {h : Heap} {K : Option Addr × Int → Option Addr × Int → Option Addr × Int → Option Addr × Int → Heap → Prop}
    (hk : ∀ d d2 s s2 h', Two h' d s (new0 1024) d2 s2 (new0 1024) h.size → Nw h h' → K (some ⟨d, 0, none⟩, 0) (some ⟨d2, 0, none⟩, 0) (some ⟨s, 0, none⟩, 0) (some ⟨s2, 0, none⟩, 0) h') :
    CallT Try.prog disk_New_no [.int .i64 1024] h [.sc .ptr, .sc (.int .i64)] fun (r1 : Option Addr × Int) h2 => CallT Try.prog disk_New_no [.int .i64 1024] h2 [.sc .ptr, .sc (.int .i64)] fun (r3 : Option Addr × Int) h4 =>
    CallT Try.prog kv_Open_no [.pointer r1.1] h4 [.sc .ptr, .sc (.int .i64)] fun (r5 : Option Addr × Int) h6 => CallT Try.prog kv_Open_no [.pointer r3.1] h6 [.sc .ptr, .sc (.int .i64)] fun (r7 : Option Addr × Int) h8 => K r1 r3 r5 r7 h8 := by
  refine Disk.new_spec (by exact ⟨by omega, by omega⟩) (fun e => by omega) ?_
  intro _ _ d mu im h2 hnew hr n2
  refine Disk.new_spec (by exact ⟨by omega, by omega⟩) (fun e => by omega) ?_
  intro _ _ d2 mu2 im2 h4 hnew2 hr2 n4
  have inv : Inv (new0 1024) := inv_new (n := 1024) (by omega) (by omega)
  have st2 : (new0 1024).m.st ≠ 2 := by show (0 : Int) ≠ 2; omega
  have hr4 : Disk.Rep h4 d mu im (new0 1024).m := (show Disk.Rep h2 d mu im (new0 1024).m from hr).keep n4 (fun _ _ h => h) (fun _ _ h => h)
  have z2 := n2.size
  have z4 := n4.size
  refine open_spec hr4 (inv.ops st2) st2 ?_
  intro s g t F h6 a6 n6 hs hg hF
  have hr6 : Disk.Rep h6 d2 mu2 im2 (new0 1024).m := (show Disk.Rep h4 d2 mu2 im2 (new0 1024).m from hr2).keep n6 (fun _ _ h => h) (fun _ _ h => h)
  have z6 := n6.size
  refine open_spec hr6 (inv.ops st2) st2 ?_
  intro s2 g2 t2 F2 h8 a8 n8 hs2 hg2 hF2
  have lt4 : ∀ b, mu b ∨ im b → b < h2.size := hr.lt
  have lt2 : ∀ b, mu2 b ∨ im2 b → b < h4.size := hr2.lt
  refine hk d d2 s s2 h8 ⟨⟨mu, im, F, g, t, mu2, im2, F2, g2, t2, a6.nw n8, a8, fun b h1 h2' => ?_, fun b hb => ?_, fun b hb => ?_⟩, inv, inv, rfl, rfl⟩ (((n2.trans' n4).trans' n6).trans' n8)
  · have lt6 := a6.vlt b h1
    have c1 : b < h2.size ∨ h4.size ≤ b := by
      rcases h1 with q | q | q | q | q
      · exact .inl (lt4 b (.inl q))
      · exact .inl (lt4 b (.inr q))
      · exact .inr (hF b q)
      · exact .inr (by omega)
      · exact .inr (by omega)
    have c2 : (h2.size ≤ b ∧ b < h4.size) ∨ h6.size ≤ b := by
      rcases h2' with q | q | q | q | q
      · exact .inl ⟨hnew2 b (.inl q), lt2 b (.inl q)⟩
      · exact .inl ⟨hnew2 b (.inr q), lt2 b (.inr q)⟩
      · exact .inr (hF2 b q)
      · exact .inr (by omega)
      · exact .inr (by omega)
    omega
  · rcases hb with q | q | q
    · exact hnew b (.inl q)
    · omega
    · omega
  · rcases hb with q | q | q
    · have := hnew2 b (.inl q); omega
    · omega
    · omega

set_option maxHeartbeats 2000000 in
theorem kvMerges_spec {h : Heap} {x0 : Sl} {cs : List Ch} (hc : Chs h x0.a x0.len cs) (hcap : x0.len ≤ x0.cap) (hl : x0.len ≤ 4000000000000) {R : Bool → Heap → Prop} (hk : ∀ h', Nw h h' → R true h') : CallT Try.prog 6 [.slice x0.a x0.len x0.cap] h [.sc .bool] R := by
  have hcall := law9_KvMerges_call x0 (R := R) (h := h)
  apply hcall; clear hcall
  unfold law9_KvMerges
  refine two_new ?_
  intro d d2 s s2 h8 tw n8
  have z8 := n8.size
  refine withJ.inl (withJ.inl ?_)
  refine cnd_f rfl (cnd_f rfl (cnd_f rfl (cnd_f rfl ?_)))
  refine cnd_dec (fun hb => ?_) (fun hb => ?_)
  · refine withJ.inl ?_
    refine cnd_t rfl (cnd_t rfl (cnd_t rfl (cnd_t rfl ?_)))
    exact awake_spec (fun h' n' => hk h' (n8.trans' n'))
  · have cl := hc.1
    have hc8 := hc.nw n8
    refine LoopT.intro (fun (i : Int) h' => h' = h8 ∧ ∃ k : Nat, i = (k : Int) ∧ k ≤ cs.length ∧ ∀ c ∈ cs.take k, okM c) (fun i _ => ((cs.length : Int) - i).toNat) ⟨rfl, 0, rfl, Nat.zero_le _, fun c hc => by simp at hc⟩ ?_
    rintro _ h14 ⟨rfl, k, rfl, hkl, hok⟩
    have bad : ∀ {X : Prop}, (CallT Try.prog law9_awake_no [] h14 [.sc .bool] fun (r21 : Bool) h22 => R r21 h22) := fun {X} => awake_spec (fun h' n' => hk h' (n8.trans' n'))
    refine cnd_dec (fun hi => ?_) (fun hi => ?_)
    · have hk' : k < cs.length := by have : (k : Int) < (x0.len : Int) := hi; omega
      have ew : w64 ((k : Int) + 1) = ((k + 1 : Nat) : Int) := by rw [w64_id (by omega) (by omega)]; omega
      have et : cs.take (k + 1) = cs.take k ++ [cs[k]] := by rw [List.take_add_one, List.getElem?_eq_getElem hk']; rfl
      refine withJ.inl (withJ.inl ?_)
      refine hc8.at hk' ?_
      intro a c1 c2 c3
      refine ldS_at c1 ?_
      refine cnd_dec (fun e1 => cnd_t rfl (bad (X := True))) (fun e1 => ?_)
      refine hc8.at hk' ?_
      intro a' c1' c2' c3'
      refine ldS_at c1' ?_
      refine cnd_dec (fun e2 => cnd_t rfl (bad (X := True))) (fun e2 => ?_)
      refine hc8.at hk' ?_
      intro a'' c1'' c2'' c3''
      refine ldS_at c2'' ?_
      refine cnd_dec (fun e3 => cnd_t rfl (bad (X := True))) (fun e3 => ?_)
      refine hc8.at hk' ?_
      intro b b1 b2 b3
      refine ldB_at b3 ?_
      have next : okM cs[k] → (∃ k' : Nat, w64 ((k : Int) + 1) = (k' : Int) ∧ k' ≤ cs.length ∧ ∀ c ∈ cs.take k', okM c) ∧ ((cs.length : Int) - w64 ((k : Int) + 1)).toNat < ((cs.length : Int) - (k : Int)).toNat := fun ho => by
        refine ⟨⟨k + 1, ew, by omega, fun c hc => ?_⟩, by rw [ew]; omega⟩
        rw [et] at hc
        rcases List.mem_append.1 hc with hc | hc
        · exact hok c hc
        · rw [List.mem_singleton] at hc; subst hc; exact ho
      refine cnd_of (fun e4 => ?_) (fun e4 => ?_)
      · refine hc8.at hk' ?_
        intro b' b1' b2' b3'
        refine ldS_at b2' ?_
        rw [seq_dec]
        by_cases ev : cs[k].2.1 = ⟨#[]⟩
        · rw [decide_eq_true ev]
          refine cnd_f rfl ?_
          obtain ⟨n1, n2⟩ := next ⟨by omega, by omega, by omega, fun _ => ev⟩
          exact ⟨⟨rfl, n1⟩, n2⟩
        · rw [decide_eq_false ev]
          exact cnd_t rfl (bad (X := True))
      · refine cnd_f rfl ?_
        obtain ⟨n1, n2⟩ := next ⟨by omega, by omega, by omega, fun e => by rw [e] at e4; cases e4⟩
        exact ⟨⟨rfl, n1⟩, n2⟩
    · have hke : k = cs.length := by have : ¬ (k : Int) < (x0.len : Int) := hi; omega
      subst hke
      rw [List.take_length] at hok
      have c40 : cs.length ≤ 40 := by omega
      have hall : ∀ c ∈ cs, mayC c = true := fun c hc => okM_may (hok c hc)
      have asz := add_sz (l := []) hok
      have rsz := recM_le hok
      have q0 : (new0 1024).q = 128 := rfl
      refine tw.commit z8 (by show 0 < 999999999; omega) (by show 0 < 999999999; omega) hc8 hl hall (by rw [q0]; have e : szL ([] : List KV) = 0 := rfl; rw [e] at asz; show 12 + szL (addC [] cs) + 256 ≤ _; omega) (by rw [q0]; unfold Wal.secs; omega) ?_
      intro x' h34 tw34 el en eq e2 k34
      have nw34 : Nw h h34 := n8.trans k34 (fun b hb e => by have e' : h.size ≤ b := e; omega)
      refine LoopT.intro (fun (i : Int) h' => ∃ (k : Nat) (y : St), i = (k : Int) ∧ k ≤ cs.length ∧ Two h' d s x' d2 s2 y h.size ∧ y.l = addC [] (cs.take k) ∧ y.n = k ∧ y.E ≤ k ∧ y.q = 128 ∧ Nw h h') (fun i _ => ((cs.length : Int) - i).toNat)
        ⟨0, _, rfl, Nat.zero_le _, tw34, rfl, rfl, Nat.le_refl _, rfl, nw34⟩ ?_
      rintro _ h37 ⟨k, y, rfl, hkl, tw37, yl, yn, yE, yq, n37⟩
      refine cnd_dec (fun hi => ?_) (fun hi => ?_)
      · have hk' : k < cs.length := by have : (k : Int) < (x0.len : Int) := hi; omega
        have ew : w64 ((k : Int) + 1) = ((k + 1 : Nat) : Int) := by rw [w64_id (by omega) (by omega)]; omega
        have et : cs.take (k + 1) = cs.take k ++ [cs[k]] := by rw [List.take_add_one, List.getElem?_eq_getElem hk']; rfl
        rw [ew]
        refine ⟨by omega, by omega, by omega, by omega, ?_⟩
        rw [if_neg (by omega), show (((k + 1 : Nat) : Int) - (k : Int)).toNat = 1 by omega, show ((k : Nat) : Int).toNat = k from Int.toNat_natCast k]
        have hc37 := hc.nw n37
        obtain ⟨a, ea, d1, d2', d3⟩ := hc37.2 k cs[k] (List.getElem?_eq_getElem hk')
        have ch1 : Chs h37 (x0.a.map (·.add (k * 3))) 1 [cs[k]] := by
          refine ⟨rfl, fun i c hi => ?_⟩
          cases i with
          | zero =>
            simp only [List.getElem?_cons_zero, Option.some.injEq] at hi
            subst hi
            refine ⟨a.add (k * 3), by rw [ea]; rfl, ?_, ?_, ?_⟩
            · rw [Nat.zero_mul, add_zero]; exact d1
            · rw [Nat.zero_mul, add_zero]; exact d2'
            · rw [Nat.zero_mul, add_zero]; exact d3
          | succ i => simp at hi
        have hm1 : ∀ c ∈ [cs[k]], okM c := fun c hc => by rw [List.mem_singleton] at hc; subst hc; exact hok _ (List.getElem_mem hk')
        have al : addC y.l [cs[k]] = addC [] (cs.take (k + 1)) := by rw [et, addC_snoc, yl]; rfl
        have asz2 := add_sz (l := []) (cs := cs.take (k + 1)) (fun c hc => hok c (List.mem_of_mem_take hc))
        have rsz2 := recM_le hm1
        have e0 : szL ([] : List KV) = 0 := rfl
        rw [e0, List.length_take] at asz2
        have z37 := n37.size
        refine tw37.swap.commit z37 (by omega) (by omega) ch1 (by omega) (fun c hc => okM_may (hm1 c hc)) (by rw [al, yq]; omega) (by rw [yq]; simp only [List.length_singleton] at rsz2; unfold Wal.secs; omega) ?_
        intro y' h40 tw40 el2 en2 eq2 e22 k40
        refine cnd_f rfl ?_
        exact ⟨⟨k + 1, y', rfl, by omega, tw40.swap, by rw [el2, al], by omega, by omega, by omega, n37.trans k40 (fun b hb e => by have e' : h.size ≤ b := e; omega)⟩, by omega⟩
      · have hke : k = cs.length := by have : ¬ (k : Int) < (x0.len : Int) := hi; omega
        subst hke
        rw [List.take_length] at yl
        have xl : x'.l = addC [] cs := el
        have xn : x'.n = 1 := en
        refine withJ.inl ?_
        refine cnd_t rfl ?_
        refine tw37.pairs ?_
        intro r44 h45 n45 p44
        refine (tw37.nw n45).swap.pairs ?_
        intro r46 h47 n47 p46
        have p44' := p44.nw n47
        rw [xl] at p44'
        rw [yl] at p46
        have ln := addC_len cs []
        refine equal_spec p44' p46 (by have e : ([] : List KV).length = 0 := rfl; omega) ?_
        refine cnd_t rfl ?_
        have tw47 := (tw37.nw n45).nw n47
        refine tw47.commits ?_
        refine cnd_t (by rw [xn]; rfl) ?_
        refine tw47.swap.commits ?_
        refine cnd_t (by rw [yn, cl]; simp) ?_
        exact awake_spec (fun h' n' => hk h' (((n37.trans' n45).trans' n47).trans' n'))

end Kv
end Go.Proofs.Ytkgocfaajfaidaa
