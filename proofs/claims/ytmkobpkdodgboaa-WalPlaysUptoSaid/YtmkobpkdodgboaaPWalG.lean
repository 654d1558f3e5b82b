/- Contracts: a log's Append, Next, Room; texts compared. -/
import Derived.Test.YtmkobpkdodgboaaPWalF
import Derived.Test.YtmkobpkdodgboaaGRefW
namespace Go.Proofs.Ytmkobpkdodgboaa
open Go D
set_option linter.unusedVariables false
set_option linter.unusedSimpArgs false
namespace Wal
open Disk Enc Hash Snap

def appM (m : M) (L : Lg) (rs : List ByteArray) : Int × M × Lg :=
  if L.dead then (50, m, L) else if L.n - L.pos < (secs (packL rs).length : Int) then (60, m, L) else
  let F := frameF L.ep L.nx (packL rs)
  let r := commitM m (aws L F (secs (packL rs).length)) (L.fr + L.pos, chunk F 0)
  if r.1 ≠ 0 then (r.1, r.2, { L with dead := true }) else (0, r.2, { L with pos := L.pos + secs (packL rs).length, nx := L.nx + 1 })

theorem next_spec {h : Heap} {p q : Nat} {L : Lg} (ho : Row h q (LRow p L)) {R : Int → Heap → Prop} (hk : R (L.nx : Int) h) : CallT Try.prog wal_Log_Next_no [.pointer (some ⟨q, 0, none⟩)] h [.sc (.int .u64)] R := by
  apply wal_Log_Next_call
  simp only [wal_Log_Next, nn_eq]
  rw [add_mk]
  exact ldI_row (o := 0 + 4) ho rfl hk
theorem room_spec {h : Heap} {p q : Nat} {L : Lg} (ho : Row h q (LRow p L)) (g : -100000 ≤ L.n ∧ L.n ≤ 100000 ∧ 0 ≤ L.pos ∧ L.pos ≤ 100000) {R : Int → Heap → Prop} (hk : R (L.n - L.pos) h) : CallT Try.prog wal_Log_Room_no [.pointer (some ⟨q, 0, none⟩)] h [.sc (.int .i64)] R := by
  apply wal_Log_Room_call
  simp only [wal_Log_Room, nn_eq]
  rw [add_mk, add_mk]
  refine ldI_row (o := 0 + 2) ho rfl (ldI_row (o := 0 + 5) ho rfl ?_)
  rw [w64_id (by omega) (by omega)]
  exact hk

theorem append_spec {mu im : Nat → Prop} {h : Heap} {p q : Nat} {m : M} {L : Lg} (hr : Disk.Rep h p mu im m) (hc : m.c.length ≤ 800000) (ho : Row h q (LRow p L)) (hq : ¬ mu q ∧ ¬ im q) (g0 : 0 ≤ L.fr) (g1 : 0 ≤ L.pos) (g3 : L.fr ≤ 100000 ∧ L.pos ≤ 100000) (g4 : -100000 ≤ L.n ∧ L.n ≤ 10000) (g5 : L.nx ≤ 1000000)
    {a : Option Addr} {l c : Nat} {rs : List ByteArray} (ht : Ts h a l rs) (hb : ((packL rs).length : Int) ≤ 4611686018427387904) {R : Int → Heap → Prop}
    (hk : ∀ mu' im' h', Disk.Rep h' p mu' im' (appM m L rs).2.1 → Row h' q (LRow p (appM m L rs).2.2) → Keep (fun b => mu b ∨ b = q) h h' → Grew h mu im mu' im' → R (appM m L rs).1 h') :
    CallT Try.prog wal_Log_Append_no [.pointer (some ⟨q, 0, none⟩), .slice a l c] h [.sc (.int .i64)] R := by
  have hcall := wal_Log_Append_call (l_0 := some ⟨q, 0, none⟩) (records_1 := ⟨a, l, c⟩) (R := R) (h := h)
  apply hcall
  simp only [wal_Log_Append, nn_eq]
  have hlen := ht.len
  have hpl : 4 * rs.length ≤ (packL rs).length := by
    have : ∀ rs : List ByteArray, 4 * rs.length ≤ (packL rs).length := by
      intro rs
      induction rs with
      | nil => simp
      | cons s rs ih =>
        have e : packL (s :: rs) = four s.size ++ (s.data.toList ++ packL rs) := by simp [packL]
        rw [e, List.length_append, List.length_append, four_length, List.length_cons]
        omega
    exact this rs
  rw [add_mk, add_mk, add_mk, add_mk]
  unfold appM at hk
  refine ldB_row (o := 0 + 6) ho rfl ?_
  cases hd : L.dead
  rotate_left
  · rw [hd] at hk
    exact cnd_t rfl (hk mu im h hr ho (.refl _ _) (.same _ _ _))
  rw [hd] at hk
  simp only [Bool.false_eq_true, if_false] at hk
  refine cnd_f rfl ?_
  refine need_spec ht hb (by omega) ?_
  refine room_spec ho (by omega) ?_
  obtain ⟨k, hkk⟩ : ∃ k, k = secs (packL rs).length := ⟨_, rfl⟩
  rw [← hkk] at hk ⊢
  refine cnd_dec (fun hfull => ?_) (fun hfull => ?_)
  · replace hfull : (k : Int) > L.n - L.pos := hfull
    rw [if_pos (by omega)] at hk
    exact hk mu im h hr ho (.refl _ _) (.same _ _ _)
  replace hfull : ¬ (k : Int) > L.n - L.pos := hfull
  rw [if_neg (by omega)] at hk
  have hkp := secs_pos (packL rs).length
  have hpk : (packL rs).length ≤ 256 * k := by have := secs_le (packL rs).length; omega
  refine ldI_row (o := 0 + 3) ho rfl (ldI_row (o := 0 + 4) ho rfl ?_)
  refine pack_spec ht (by omega) (by omega) ?_
  intro s1 h1 b1 n1 k1
  have ho1 := k1.row ho (fun h => h)
  refine ⟨ldI_row (o := 0 + 4) ho1 rfl rfl, ldI_row (o := 0 + 3) ho1 rfl rfl, ?_⟩
  have hs1 := b1.len
  refine frame_spec b1.rb (by omega) ?_
  intro s2 h2 sl2 b2 n2 k2
  rw [hs1] at sl2
  have ho2 := k2.row ho1 (fun h => h)
  have r2 := (hr.keep k1 (fun _ _ h => h) (fun _ _ h => h)).keep k2 (fun _ _ h => h) (fun _ _ h => h)
  have z1 := k1.size
  refine write_spec r2 hc ho2 hq.1 g0 g1 g3 (by omega) b2 (k := k) (by omega) (by omega) (by rw [sl2, ← hkk]) (fun b hb' hm => by
    have := n2 b hb'
    have := hr.lt b (.inl hm)
    omega) ?_
  intro mu3 im3 h3 r3 k3 gr3
  have ho3 := k3.row ho2 hq.1
  have z2 := k2.size
  have g03 : Grew h mu im mu3 im3 := ⟨fun b hb' => by
    rcases gr3.1 b hb' with hh | hh
    · exact .inl hh
    · right; omega, fun b hb' => by
    rcases gr3.2 b hb' with hh | hh
    · exact .inl hh
    · right; omega⟩
  have hql := ho.lt
  have hq3 : ¬ mu3 q := fun hm => by
    rcases gr3.1 q hm with hh | hh
    · exact hq.1 hh
    · omega
  have hi3 : ¬ im3 q := fun hm => by
    rcases gr3.2 q hm with hh | hh
    · exact hq.2 hh
    · omega
  have k03 : Keep (fun b => mu b ∨ b = q) h h3 := ((k1.trans' k2).mono (T := fun b => mu b ∨ b = q) (fun _ _ h => h.elim)).trans k3 (fun y _ hy => .inl hy)
  obtain ⟨F, hF⟩ : ∃ F, F = frameF L.ep L.nx (packL rs) := ⟨_, rfl⟩
  rw [← hF] at r3 hk ⊢
  refine cnd_of (fun hne => ?_) (fun heq => ?_)
  · have hne' : (commitM m (aws L F k) (L.fr + L.pos, chunk F 0)).1 ≠ 0 := by simpa using hne
    simp only [if_pos hne'] at hk
    refine stC_row (o := 0 + 6) ho3 (by rw [LRow_len]; omega) rfl ?_
    intro h4 s4 o4 k4
    exact hk mu3 im3 h4 (r3.keep k4 (fun b hb' e => hq3 (by have e' : b = q := e; rw [← e']; exact hb')) (fun b hb' e => hi3 (by have e' : b = q := e; rw [← e']; exact hb'))) o4 (k03.trans k4 (fun y _ hy => .inr hy)) g03
  · have heq' : (commitM m (aws L F k) (L.fr + L.pos, chunk F 0)).1 = 0 := by simpa using heq
    simp only [if_neg (Classical.not_not.2 heq')] at hk
    refine ldI_row (o := 0 + 5) ho3 rfl ?_
    have e1 : w64 (L.pos + (k : Int)) = L.pos + k := w64_id (by omega) (by omega)
    rw [e1]
    refine stC_row (o := 0 + 5) ho3 (by rw [LRow_len]; omega) rfl ?_
    intro h4 s4 o4 k4
    refine ldI_row (n := (L.nx : Int)) (o := 0 + 4) o4 rfl ?_
    have ex : IntKind.u64.wrap ((L.nx : Int) + 1) = ((L.nx + 1 : Nat) : Int) := by rw [wrap_u64_id (by omega) (by omega)]; rfl
    rw [ex]
    refine stC_row (o := 0 + 4) o4 (by rw [List.length_set, LRow_len]; omega) rfl ?_
    intro h5 s5 o5 k5
    have k35 := k4.trans' k5
    have o5' : Row h5 q (LRow p ⟨L.fr, L.n, L.ep, L.nx + 1, L.pos + (k : Int), L.dead⟩) := o5
    rw [hd] at o5'
    exact hk mu3 im3 h5 (r3.keep k35 (fun b hb' e => hq3 (by have e' : b = q := e; rw [← e']; exact hb')) (fun b hb' e => hi3 (by have e' : b = q := e; rw [← e']; exact hb'))) o5' (k03.trans k35 (fun y _ hy => .inr hy)) g03

/-! ### texts compared -/
theorem same_texts {h : Heap} {a b : Option Addr} {l c l' c' : Nat} {rs rs' : List ByteArray} (h1 : Ts h a l rs) (h2 : Ts h b l' rs') (hl : l ≤ 1000000000000) {R : Bool → Heap → Prop} (hk : R (decide (rs = rs')) h) :
    CallT Try.prog ref1_SameTexts_no [.slice a l c, .slice b l' c'] h [.sc .bool] R := by
  have hcall := ref1_SameTexts_call (a_0 := ⟨a, l, c⟩) (b_1 := ⟨b, l', c'⟩) (R := R) (h := h)
  apply hcall
  simp only [ref1_SameTexts]
  have e1 := h1.len
  have e2 := h2.len
  refine cnd_of (fun hne => ?_) (fun heq => ?_)
  · have hne0 : ¬ (l : Int) = l' := by simpa using hne
    have hne' : l ≠ l' := by omega
    have : decide (rs = rs') = false := decide_eq_false (fun e => hne' (by rw [e1, e2, e]))
    rw [this] at hk
    exact hk
  · have heq0 : (l : Int) = l' := by simpa using heq
    have heq' : l = l' := by omega
    refine LoopT.intro (fun i h' => h' = h ∧ 0 ≤ i ∧ i ≤ l ∧ rs.take i.toNat = rs'.take i.toNat) (fun i _ => ((l : Int) - i).toNat) ⟨rfl, by omega, by omega, rfl⟩ ?_
    rintro i h' ⟨rfl, q1, q2, q3⟩
    refine cnd_dec (fun hi => ?_) (fun hi => ?_)
    · refine Ts.at h1 q1 (by omega) ?_
      intro s hs
      refine Ts.at h2 q1 (by omega) ?_
      intro t ht
      refine cnd_of (fun hne => ?_) (fun heq => ?_)
      · have hst : s ≠ t := fun e => by subst e; rw [seq_self] at hne; simp at hne
        have : decide (rs = rs') = false := decide_eq_false (fun e => hst (by rw [e] at hs; rw [hs] at ht; injection ht))
        rw [this] at hk
        exact hk
      · have hst : s = t := by
          have : seq s t = true := by simpa using heq
          exact seq_iff.1 this
        have hw : w64 (i + 1) = i + 1 := w64_id (by omega) (by omega)
        rw [hw]
        exact ⟨⟨rfl, by omega, by omega, by rw [show (i + 1).toNat = i.toNat + 1 by omega, take_snoc hs, take_snoc ht, q3, hst]⟩, by omega⟩
    · have : rs = rs' := by
        have e : i.toNat = l := by omega
        rw [e, List.take_of_length_le (by omega), List.take_of_length_le (by omega)] at q3
        exact q3
      rw [decide_eq_true this] at hk
      exact hk

theorem Fs_at {h : Heap} {B : Nat → Prop} {a : Option Addr} {l : Nat} {fs : List (List ByteArray)} (hf : Fs h B a l fs) {i : Int} (h0 : 0 ≤ i) (h1 : i < l) {K : Option Addr → Nat → Nat → Prop} (hk : ∀ f, fs[i.toNat]? = some f → ∀ a' l' c', TsB h B a' l' f → K a' l' c') :
    idx a l i fun x => ldL (x.add (i.toNat * 1)) h K := by
  have hl := hf.len
  obtain ⟨vs, q1, q2, q3⟩ := hf
  have hv : i.toNat < vs.length := by rw [q3.1]; omega
  have hf' : i.toNat < fs.length := by omega
  obtain ⟨a', l', c', e, t⟩ := q3.2 i.toNat _ _ (List.getElem?_eq_getElem hv) (List.getElem?_eq_getElem hf')
  refine Rv.at q1 h0 h1 (List.getElem?_eq_getElem hv) fun x hx => ldL_at (by rw [hx, e]) (hk _ (List.getElem?_eq_getElem hf') a' l' c' t)

theorem frames_spec {h : Heap} {A B : Nat → Prop} {a b : Option Addr} {l c l' c' : Nat} {fs fs' : List (List ByteArray)} (h1 : Fs h A a l fs) (h2 : Fs h B b l' fs') (hl : l ≤ 1000000000000) (ht : ∀ f ∈ fs, f.length ≤ 1000000000000) {R : Bool → Heap → Prop} (hk : R (decide (fs = fs')) h) :
    CallT Try.prog law6_frames_no [.slice a l c, .slice b l' c'] h [.sc .bool] R := by
  have hcall := law6_frames_call (a_0 := ⟨a, l, c⟩) (b_1 := ⟨b, l', c'⟩) (R := R) (h := h)
  apply hcall
  simp only [law6_frames]
  have e1 := h1.len
  have e2 := h2.len
  refine cnd_of (fun hne => ?_) (fun heq => ?_)
  · have hne0 : ¬ (l : Int) = l' := by simpa using hne
    have hne' : l ≠ l' := by omega
    have : decide (fs = fs') = false := decide_eq_false (fun e => hne' (by rw [e1, e2, e]))
    rw [this] at hk
    exact hk
  · have heq0 : (l : Int) = l' := by simpa using heq
    have heq' : l = l' := by omega
    refine LoopT.intro (fun i h' => h' = h ∧ 0 ≤ i ∧ i ≤ l ∧ fs.take i.toNat = fs'.take i.toNat) (fun i _ => ((l : Int) - i).toNat) ⟨rfl, by omega, by omega, rfl⟩ ?_
    rintro i h' ⟨rfl, q1, q2, q3⟩
    refine cnd_dec (fun hi => ?_) (fun hi => ?_)
    · refine Fs_at h1 q1 (by omega) ?_
      intro f hf a1 l1 c1 t1
      refine Fs_at h2 q1 (by omega) ?_
      intro g hg a2 l2 c2 t2
      refine same_texts t1.1 t2.1 (by have := t1.1.len; have := ht f (List.mem_of_getElem? hf); omega) ?_
      by_cases hst : f = g
      · rw [decide_eq_true hst]
        refine cnd_f rfl ?_
        have hw : w64 (i + 1) = i + 1 := w64_id (by omega) (by omega)
        rw [hw]
        exact ⟨⟨rfl, by omega, by omega, by rw [show (i + 1).toNat = i.toNat + 1 by omega, take_snoc hf, take_snoc hg, q3, hst]⟩, by omega⟩
      · rw [decide_eq_false hst]
        refine cnd_t rfl ?_
        have : decide (fs = fs') = false := decide_eq_false (fun e => hst (by rw [e] at hf; rw [hf] at hg; injection hg))
        rw [this] at hk
        exact hk
    · have : fs = fs' := by
        have e : i.toNat = l := by omega
        rw [e, List.take_of_length_le (by omega), List.take_of_length_le (by omega)] at q3
        exact q3
      rw [decide_eq_true this] at hk
      exact hk

end Wal
end Go.Proofs.Ytmkobpkdodgboaa
