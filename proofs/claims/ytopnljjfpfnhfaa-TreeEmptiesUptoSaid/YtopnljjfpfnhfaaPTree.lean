/- A Tree: Put, Del, Get, Len, From, as laws about its pairs. -/
import Derived.Test.YtopnljjfpfnhfaaPRem
namespace Go.Proofs.Ytopnljjfpfnhfaa
open Go D
set_option linter.unusedVariables false
set_option linter.unusedSimpArgs false

theorem least_of {P : Nat → Prop} : ∀ n, P n → ∃ m, P m ∧ ∀ k, k < m → ¬ P k := by
  intro n
  induction n using Nat.strongRecOn with
  | _ n ih =>
    intro hp
    by_cases c : ∃ k, k < n ∧ P k
    · obtain ⟨k, h1, h2⟩ := c
      exact ih k h1 h2
    · exact ⟨n, hp, fun k hk hpk => c ⟨k, hk, hpk⟩⟩
/-- a loop whose rounds lower a number that the state alone does not tell -/
theorem LoopT.introN {σ : Type} {F : (σ → Heap → Prop) → σ → Heap → Prop} {s : σ} {h : Heap} (I : Nat → σ → Heap → Prop) (h0 : ∃ n, I n s h)
    (hr : ∀ n s h, I n s h → F (fun s' h' => ∃ m, m < n ∧ I m s' h') s h) : LoopT F s h := by
  have key : ∃ μ : σ → Heap → Nat, ∀ s h, (∃ n, I n s h) → I (μ s h) s h ∧ ∀ k, k < μ s h → ¬ I k s h := by
    have h1 : ∀ p : σ × Heap, ∃ m, (∃ n, I n p.1 p.2) → I m p.1 p.2 ∧ ∀ k, k < m → ¬ I k p.1 p.2 := by
      intro p
      by_cases c : ∃ n, I n p.1 p.2
      · obtain ⟨n, hn⟩ := c
        obtain ⟨m, h2, h3⟩ := least_of (P := fun n => I n p.1 p.2) n hn
        exact ⟨m, fun _ => ⟨h2, h3⟩⟩
      · exact ⟨0, fun c' => absurd c' c⟩
    exact ⟨fun s h => Classical.choose (h1 (s, h)), fun s h => Classical.choose_spec (h1 (s, h))⟩
  obtain ⟨μ, hμ⟩ := key
  refine ⟨fun s h => ∃ n, I n s h, μ, h0, ?_⟩
  intro s h hx
  have h1 := hr _ s h (hμ s h hx).1
  have e : (fun s' h' => ∃ m, m < μ s h ∧ I m s' h') = (fun s' h' => (∃ n, I n s' h') ∧ μ s' h' < μ s h) := by
    funext s' h'
    apply propext
    constructor
    · rintro ⟨m, q1, q2⟩
      refine ⟨⟨m, q2⟩, ?_⟩
      have q3 := (hμ s' h' ⟨m, q2⟩).2
      rcases Nat.lt_or_ge m (μ s' h') with q | q
      · exact absurd q2 (q3 m q)
      · omega
    · rintro ⟨q1, q2⟩
      exact ⟨_, q2, (hμ s' h' q1).1⟩
  rw [← e]; exact h1

/-- a whole tree is as it must be -/
def Rt : (n : Nat) → T n → Prop
  | 0, t => Okn 0 0 t ∧ Pw (flat 0 t)
  | n + 1, t => Okn 2 (n + 1) t ∧ Pw (flat (n + 1) t)
def lo0 : Nat → Nat | 0 => 0 | _ + 1 => 2
theorem Rt.ok : ∀ {n : Nat} {t : T n}, Rt n t → Okn (lo0 n) n t
  | 0, _, h => h.1
  | _ + 1, _, h => h.1
theorem Rt.pw : ∀ {n : Nat} {t : T n}, Rt n t → Pw (flat n t)
  | 0, _, h => h.2
  | _ + 1, _, h => h.2
theorem Rt.mk : ∀ {n : Nat} {t : T n} {lo : Nat}, Okn lo n t → lo0 n ≤ lo → Pw (flat n t) → Rt n t
  | 0, _, _, h, hl, hp => ⟨h.mono hl, hp⟩
  | _ + 1, _, _, h, hl, hp => ⟨h.mono hl, hp⟩
theorem lo0_le (n : Nat) : lo0 n ≤ 4 := by cases n <;> simp [lo0]
theorem lo0_or (n : Nat) : n = 0 ∨ 2 ≤ lo0 n := by cases n <;> simp [lo0]
theorem Rt.srt {n : Nat} {t : T n} (h : Rt n t) : Srt n t := srt_of h.ok h.pw
/-- block p is a tree with these pairs; its blocks lie in F -/
def TreeAt (h : Heap) (F : Nat → Prop) (p : Nat) (l : List KV) : Prop := ∃ n t, TRep h F n t p ∧ Rt n t ∧ prs n t = l
theorem TreeAt.keep {h h' : Heap} {F S : Nat → Prop} {p : Nat} {l : List KV} (ht : TreeAt h F p l) (hk : Keep S h h') (hS : ∀ b, F b → ¬ S b) : TreeAt h' F p l := by
  obtain ⟨n, t, r, o, e⟩ := ht
  exact ⟨n, t, r.keep hk hS, o, e⟩
theorem TreeAt.nw {h h' : Heap} {F : Nat → Prop} {p : Nat} {l : List KV} (ht : TreeAt h F p l) (hk : Nw h h') : TreeAt h' F p l := ht.keep hk (fun _ _ h => h)
theorem TreeAt.mono {h : Heap} {F F' : Nat → Prop} {p : Nat} {l : List KV} (ht : TreeAt h F p l) (hF : ∀ b, F b → F' b) : TreeAt h F' p l := by
  obtain ⟨n, t, r, o, e⟩ := ht
  exact ⟨n, t, r.mono hF, o, e⟩
theorem TreeAt.lt {h : Heap} {F : Nat → Prop} {p : Nat} {l : List KV} (ht : TreeAt h F p l) : F p := by
  obtain ⟨n, t, ⟨v, r, f, q⟩, o, e⟩ := ht
  exact f

theorem treeNew {h : Heap} {R : Option Addr → Heap → Prop} (hk : ∀ p h', Nw h h' → TreeAt h' (New h h') p [] → R (some ⟨p, 0, none⟩) h') : CallT Try.prog btree_New_no [] h [.sc .ptr] R :=
  new_spec fun p h' nw hp tr => hk p h' nw ⟨0, _, tr, ⟨⟨by show 0 ≤ _; omega, by show ([] : List KV).length ≤ 8; decide⟩, List.Pairwise.nil⟩, rfl⟩
theorem treeLen {h : Heap} {F : Nat → Prop} {p : Nat} {l : List KV} (ht : TreeAt h F p l) {R : Int → Heap → Prop} (hk : R (l.length : Int) h) : CallT Try.prog btree_Tree_Len_no [.pointer (some ⟨p, 0, none⟩)] h [.sc (.int .i64)] R := by
  obtain ⟨n, t, r, o, e⟩ := ht
  refine len_spec r ?_
  rw [e]; exact hk
theorem treeFrom {h : Heap} {F : Nat → Prop} {p : Nat} {l : List KV} {k : Key} (ht : TreeAt h F p l) (hF : ∀ b, F b → b < h.size) {R : Value → Heap → Prop}
    (hk : ∀ r h', Nw h h' → h'.size = h.size + 2 → SeqC Try.prog r [.str, .str] h' (fun b => F b ∨ b = h.size ∨ b = h.size + 1) (fromKV k l) → R r h') : CallT Try.prog btree_Tree_From_no [.pointer (some ⟨p, 0, none⟩), .string k] h [.sc .raw] R := by
  obtain ⟨n, t, r, o, e⟩ := ht
  refine from_spec r hF o.srt ?_
  intro rv h' nw sz sq
  rw [frm_prs k o.ok o.pw, e] at sq
  exact hk rv h' nw sz sq

/-- what put makes of a whole tree -/
theorem put_root {n : Nat} {t : T n} (h : Rt n t) (k w : Key) : (∀ q, (putF k w n t).1.2 = some q → Rt (n + 1) (([q.1], [(putF k w n t).1.1, q.2]) : T (n + 1)) ∧ prs (n + 1) (([q.1], [(putF k w n t).1.1, q.2]) : T (n + 1)) = insKV k w (prs n t)) ∧
    ((putF k w n t).1.2 = none → Rt n (putF k w n t).1.1 ∧ prs n (putF k w n t).1.1 = insKV k w (prs n t)) := by
  have ok := putF_ok k w h.ok
  have pw := put_ord (A := []) (B := []) k w h.ok (by simpa using h.pw) (fun x hx => by cases hx) (fun x hx => by cases hx)
  have pr := put_prs k w h.ok h.pw
  rcases hq : (putF k w n t).1 with ⟨A, O⟩
  rw [hq] at ok pw pr
  refine ⟨fun q e => ?_, fun e => ?_⟩
  · subst e
    obtain ⟨oa, ob⟩ := ok.1 q rfl
    have e1 : flat (n + 1) (([q.1], [A, q.2]) : T (n + 1)) = flatO n (A, some q) := by
      show flat n A ++ (true, q.1) :: (flat n q.2 ++ []) = flat n A ++ (true, q.1) :: flat n q.2
      rw [List.append_nil]
    refine ⟨⟨⟨rfl, by show 2 ≤ 2; omega, by show 2 ≤ 8; omega, fun s hs => ?_⟩, ?_⟩, ?_⟩
    · rcases List.mem_cons.1 hs with rfl | hs
      · exact oa
      · rcases List.mem_cons.1 hs with rfl | hs
        · exact ob
        · cases hs
    · rw [e1]; simpa using pw
    · rw [← pr]
      show prs n A ++ (prs n q.2 ++ []) = prs n A ++ prs n q.2
      rw [List.append_nil]
  · subst e
    have e1 : flatO n (A, none) = flat n A := List.append_nil _
    have e2 : prsO n (A, none) = prs n A := List.append_nil _
    refine ⟨Rt.mk (ok.2 rfl) (Nat.le_refl _) ?_, ?_⟩
    · rw [e1] at pw; simpa using pw
    · rw [← pr]; exact e2.symm

theorem treePut {h : Heap} {F : Nat → Prop} {p : Nat} {l : List KV} {k w : Key} (ht : TreeAt h F p l) (hF : ∀ b, F b → b < h.size) (hl : l.length ≤ 1000000000) {R : Option Addr → Heap → Prop}
    (hk : ∀ p' h', Nw h h' → TreeAt h' (Fn F h h') p' (insKV k w l) → R (some ⟨p', 0, none⟩) h') : CallT Try.prog btree_Tree_Put_no [.pointer (some ⟨p, 0, none⟩), .string k, .string w] h [.sc .ptr] R := by
  obtain ⟨n, t, ⟨v, row, fp, rep⟩, o, e⟩ := ht
  apply btree_Tree_Put_call
  unfold btree_Tree_Put
  refine ⟨v, by rw [row.cells]; rfl, ?_⟩
  refine put_spec k w n rep hF o.srt ?_
  intro a b m h4 n4 ra ob
  have root := put_root o k w
  have len := put_len k w o.ok (t := t)
  rcases hq : putF k w n t with ⟨⟨A, O⟩, more⟩
  rw [hq] at ra ob root len
  simp only at ra ob root len
  have row4 := n4.row row (fun h => h)
  have z4 := n4.size
  refine ldI_row (o := 0 + 1) row4 rfl ?_
  refine ⟨ra.one.1, newB_row ?_⟩
  intro h8 s8 row8 k8
  have lp : (prs n t).length = l.length := by rw [e]
  refine withJ.intro (fun _ h11 => Row h11 h4.size [a, .int .i64 (((prsO n (A, O)).length : Nat) : Int)] ∧ Nw h4 h11) ?_ ?_
  · rintro _ h11 ⟨row11, n11⟩
    have z11 := n11.size
    have hlt := row11.lt
    refine withJ.inl ?_
    cases O with
    | none =>
      have ob' : b = .nilIface := ob
      subst ob'
      refine isNil_t ?_
      refine cnd_f rfl ?_
      obtain ⟨q1, q2⟩ := root.2 rfl
      have e2 : prsO n (A, none) = prs n A := List.append_nil _
      rw [e2] at row11
      exact hk h4.size h11 (n4.trans' n11) ⟨n, A, ⟨a, row11, .inr ⟨z4, hlt⟩, (ra.nw n11).mono (fun b hb => fn_mono (Nat.le_refl _) z11 hb)⟩, q1, by rw [q2, e]⟩
    | some q =>
      obtain ⟨m', B⟩ := q
      obtain ⟨em, rb⟩ : m = m' ∧ Rep h4 (Fn F h h4) n B b := ob
      subst em
      obtain ⟨q1, q2⟩ := root.1 (m, B) rfl
      have isn : ∀ {X : Bool → Prop}, X false → isNilI b X := fun hX => by
        cases n with
        | zero => obtain ⟨p, ka, kl, kc, va, vl, vc, rfl, _⟩ := rb; exact hX
        | succ n => obtain ⟨p, ka, kl, kc, sa, sl, sc, vs, rfl, _⟩ := rb; exact hX
      refine isn ?_
      refine cnd_t rfl ?_
      refine newB_row ?_
      intro h17 s17 w17 k17
      refine ⟨ra.one.1, rb.one.1, newB_row ?_⟩
      intro h19 s19 w19 k19
      refine newB_row ?_
      intro h21 s21 w21 k21
      have n21 : Nw h11 h21 := (k17.trans' k19).trans' k21
      refine stC_row (o := 0) (n21.row row11 (fun h => h)) (by simp) rfl ?_
      intro h22 s22 w22 k22
      have nw : Nw h4 h22 := Nw.st (n11.trans' n21) k22 (by simp)
      have z22 := nw.size
      have kw : ∀ {b : Nat} {cs : List Value}, Row h21 b cs → b ≠ h4.size → Row h22 b cs := fun hr hb => k22.row hr (fun e => hb e)
      have r17 := kw (k21.row (k19.row w17 (fun h => h)) (fun h => h)) (by omega)
      have r19 := kw (k21.row w19 (fun h => h)) (by omega)
      have r21 := kw w21 (by omega)
      have e2 : prs (n + 1) (([m], [A, B]) : T (n + 1)) = prsO n (A, some (m, B)) := by
        show prs n A ++ (prs n B ++ []) = prs n A ++ prs n B
        rw [List.append_nil]
      have rep' : Rep h22 (Fn F h h22) (n + 1) (([m], [A, B]) : T (n + 1)) (.iface inT (.pointer (some ⟨h19.size, 0, none⟩))) := by
        refine ⟨h19.size, _, 1, 1, _, 2, 2, [a, b], rfl, .inr ⟨by omega, r21.lt⟩, r21, rv_row r17 rfl, rv_row r19 rfl, by omega, fun b hb => ?_, fun b hb => ?_, rfl, ?_⟩
        · rw [blk_some] at hb; simp only at hb; subst hb; exact .inr ⟨by omega, r17.lt⟩
        · rw [blk_some] at hb; simp only at hb; subst hb; exact .inr ⟨by omega, r19.lt⟩
        · intro i s w h1 h2
          have ra' := (ra.nw nw).mono (F' := Fn F h h22) (fun b hb => fn_mono (Nat.le_refl _) z22 hb)
          have rb' := (rb.nw nw).mono (F' := Fn F h h22) (fun b hb => fn_mono (Nat.le_refl _) z22 hb)
          cases i with
          | zero => simp at h1 h2; subst h1 h2; exact ra'
          | succ i =>
            cases i with
            | zero => simp at h1 h2; subst h1 h2; exact rb'
            | succ i => simp at h1
      refine hk h4.size h22 (n4.trans' nw) ⟨n + 1, ([m], [A, B]), ⟨_, ?_, .inr ⟨z4, w22.lt⟩, rep'⟩, q1, by rw [q2, e]⟩
      rw [e2]; exact w22
  · intro J hJ
    cases more with
    | true =>
      refine cnd_t rfl ?_
      refine ldI_row (o := 0 + 1) row8 rfl ?_
      refine stC_row (b := h4.size) (o := 0 + 1) row8 (by simp) rfl ?_
      intro h24 s24 w24 k24
      have e3 : w64 (((prs n t).length : Int) + 1) = (((prsO n (A, O)).length : Nat) : Int) := by
        rw [len, lp, w64_id (by omega) (by omega)]; rfl
      rw [e3] at w24
      exact hJ () h24 ⟨w24, Nw.st k8 k24 (Nat.le_refl _)⟩
    | false =>
      refine cnd_f rfl ?_
      have e3 : (prsO n (A, O)).length = (prs n t).length := len
      rw [← e3] at row8
      exact hJ () h8 ⟨row8, k8⟩
end Go.Proofs.Ytopnljjfpfnhfaa
