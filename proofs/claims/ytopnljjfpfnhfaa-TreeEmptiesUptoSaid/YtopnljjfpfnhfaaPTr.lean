/- Trees: New, Len, From. -/
import Derived.Test.YtopnljjfpfnhfaaPAllB
namespace Go.Proofs.Ytopnljjfpfnhfaa
open Go D
set_option linter.unusedVariables false
set_option linter.unusedSimpArgs false

/-- block p is a Tree: its root is t, and the number of its pairs -/
def TRep (h : Heap) (F : Nat → Prop) (n : Nat) (t : T n) (p : Nat) : Prop := ∃ v, Row h p [v, .int .i64 ((prs n t).length : Int)] ∧ F p ∧ Rep h F n t v
theorem TRep.keep {h h' : Heap} {F S : Nat → Prop} (hk : Keep S h h') (hS : ∀ b, F b → ¬ S b) {n : Nat} {t : T n} {p : Nat} (hr : TRep h F n t p) : TRep h' F n t p := by
  obtain ⟨v, r, f, q⟩ := hr
  exact ⟨v, hk.row r (hS _ f), f, q.keep hk hS⟩
theorem TRep.mono {h : Heap} {F F' : Nat → Prop} (hF : ∀ b, F b → F' b) {n : Nat} {t : T n} {p : Nat} (hr : TRep h F n t p) : TRep h F' n t p := by
  obtain ⟨v, r, f, q⟩ := hr
  exact ⟨v, r, hF _ f, q.mono hF⟩
theorem TRep.nw {h h' : Heap} {F : Nat → Prop} (hk : Nw h h') {n : Nat} {t : T n} {p : Nat} (hr : TRep h F n t p) : TRep h' F n t p := hr.keep hk (fun _ _ h => h)

theorem len_spec {h : Heap} {F : Nat → Prop} {n : Nat} {t : T n} {p : Nat} (hr : TRep h F n t p) {R : Int → Heap → Prop} (hk : R ((prs n t).length : Int) h) : CallT Try.prog btree_Tree_Len_no [.pointer (some ⟨p, 0, none⟩)] h [.sc (.int .i64)] R := by
  obtain ⟨v, r, f, q⟩ := hr
  apply btree_Tree_Len_call
  unfold btree_Tree_Len
  exact ldI_row (o := 0 + 1) r rfl hk
theorem new_spec {h : Heap} {R : Option Addr → Heap → Prop} (hk : ∀ p h', Nw h h' → h.size ≤ p → TRep h' (fun b => h.size ≤ b ∧ b < h'.size) 0 ([] : List KV) p → R (some ⟨p, 0, none⟩) h') : CallT Try.prog btree_New_no [] h [.sc .ptr] R := by
  apply btree_New_call
  unfold btree_New
  refine newB_row ?_
  intro h1 s1 r1 k1
  refine ⟨rfl, newB_row ?_⟩
  intro h2 s2 r2 k2
  refine hk h1.size h2 (k1.trans' k2) (by omega) ⟨_, r2, ⟨by omega, by omega⟩, h.size, none, 0, 0, none, 0, 0, rfl, ⟨by omega, by omega⟩, k2.row r1 (fun h => h), ?_, ?_, ?_, ?_⟩
  · exact ⟨rfl, fun i v hv => by simp at hv⟩
  · exact ⟨rfl, fun i v hv => by simp at hv⟩
  · rintro b ⟨x, e, _⟩; cases e
  · rintro b ⟨x, e, _⟩; cases e
theorem from_spec {h : Heap} {F : Nat → Prop} {n : Nat} {t : T n} {p : Nat} {k : Key} (hr : TRep h F n t p) (hF : ∀ b, F b → b < h.size) (hs : Srt n t) {R : Value → Heap → Prop}
    (hk : ∀ r h', Nw h h' → h'.size = h.size + 2 → SeqC Try.prog r [.str, .str] h' (fun b => F b ∨ b = h.size ∨ b = h.size + 1) (frm k n t) → R r h') : CallT Try.prog btree_Tree_From_no [.pointer (some ⟨p, 0, none⟩), .string k] h [.sc .raw] R := by
  obtain ⟨v, r, f, q⟩ := hr
  apply btree_Tree_From_call
  unfold btree_Tree_From
  refine ⟨v, by rw [r.cells]; rfl, ?_⟩
  refine all_spec q.one.1 ?_
  intro h2 n2 s2 r1 r3
  exact hk _ h2 n2 s2 (seq_all n (q.nw n2) (fun b hb => by have := hF b hb; omega) hs r1 r3)
end Go.Proofs.Ytopnljjfpfnhfaa
