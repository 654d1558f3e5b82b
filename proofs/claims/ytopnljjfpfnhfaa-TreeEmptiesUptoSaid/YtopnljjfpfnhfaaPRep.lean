/- Trees: their model, and how they lie in memory. -/
import Derived.Test.YtopnljjfpfnhfaaPTyT
namespace Go.Proofs.Ytopnljjfpfnhfaa
open Go D
set_option linter.unusedVariables false
set_option linter.unusedSimpArgs false

abbrev KV := Key × Key
/-- a tree of height n: all leaves lie equally deep -/
def T : Nat → Type
  | 0 => List KV
  | n + 1 => List Key × List (T n)
/-- its pairs, from left to right -/
def prs : (n : Nat) → T n → List KV
  | 0, t => t
  | n + 1, t => (t.2.map (prs n)).flatten

/-- v is that tree; its blocks lie in F -/
def Rep (h : Heap) (F : Nat → Prop) : (n : Nat) → T n → Value → Prop
  | 0, t, v => ∃ p ka kl kc va vl vc, v = .iface lfT (.pointer (some ⟨p, 0, none⟩)) ∧ F p ∧ Row h p [.slice ka kl kc, .slice va vl vc] ∧
      Rv h ka kl (keysV (t.map (·.1))) ∧ Rv h va vl (keysV (t.map (·.2))) ∧ (∀ b, blk ka b → F b) ∧ (∀ b, blk va b → F b)
  | n + 1, t, v => ∃ p ka kl kc sa sl sc vs, v = .iface inT (.pointer (some ⟨p, 0, none⟩)) ∧ F p ∧ Row h p [.slice ka kl kc, .slice sa sl sc] ∧
      Rv h ka kl (keysV t.1) ∧ Rv h sa sl vs ∧ sl ≤ sc ∧ (∀ b, blk ka b → F b) ∧ (∀ b, blk sa b → F b) ∧ vs.length = t.2.length ∧ ∀ (i : Nat) s w, t.2[i]? = some s → vs[i]? = some w → Rep h F n s w

theorem Rep.mono {h : Heap} {F F' : Nat → Prop} (hF : ∀ b, F b → F' b) : ∀ {n : Nat} {t : T n} {v : Value}, Rep h F n t v → Rep h F' n t v
  | 0, t, v, ⟨p, ka, kl, kc, va, vl, vc, e, f, r, k1, k2, f1, f2⟩ => ⟨p, ka, kl, kc, va, vl, vc, e, hF _ f, r, k1, k2, fun b hb => hF _ (f1 b hb), fun b hb => hF _ (f2 b hb)⟩
  | n + 1, t, v, ⟨p, ka, kl, kc, sa, sl, sc, vs, e, f, r, k1, k2, lc, f1, f2, l, hs⟩ =>
    ⟨p, ka, kl, kc, sa, sl, sc, vs, e, hF _ f, r, k1, k2, lc, fun b hb => hF _ (f1 b hb), fun b hb => hF _ (f2 b hb), l, fun i s w h1 h2 => Rep.mono hF (hs i s w h1 h2)⟩
theorem Rep.keep {h h' : Heap} {F S : Nat → Prop} (hk : Keep S h h') (hS : ∀ b, F b → ¬ S b) : ∀ {n : Nat} {t : T n} {v : Value}, Rep h F n t v → Rep h' F n t v
  | 0, t, v, ⟨p, ka, kl, kc, va, vl, vc, e, f, r, k1, k2, f1, f2⟩ => ⟨p, ka, kl, kc, va, vl, vc, e, f, hk.row r (hS _ f), k1.keep hk (fun _ b hb => hS _ (f1 b hb)), k2.keep hk (fun _ b hb => hS _ (f2 b hb)), f1, f2⟩
  | n + 1, t, v, ⟨p, ka, kl, kc, sa, sl, sc, vs, e, f, r, k1, k2, lc, f1, f2, l, hs⟩ =>
    ⟨p, ka, kl, kc, sa, sl, sc, vs, e, f, hk.row r (hS _ f), k1.keep hk (fun _ b hb => hS _ (f1 b hb)), k2.keep hk (fun _ b hb => hS _ (f2 b hb)), lc, f1, f2, l, fun i s w h1 h2 => Rep.keep hk hS (hs i s w h1 h2)⟩
theorem Rep.nw {h h' : Heap} {F : Nat → Prop} (hk : Nw h h') {n : Nat} {t : T n} {v : Value} (hr : Rep h F n t v) : Rep h' F n t v := hr.keep hk (fun _ _ h => h)
theorem Rep.one {h : Heap} {F : Nat → Prop} {n : Nat} {t : T n} {v : Value} (hr : Rep h F n t v) : v.cells = #[v] ∧ v.oneCell' = true := by
  cases n with
  | zero => obtain ⟨p, ka, kl, kc, va, vl, vc, rfl, _⟩ := hr; exact ⟨rfl, rfl⟩
  | succ n => obtain ⟨p, ka, kl, kc, sa, sl, sc, vs, rfl, _⟩ := hr; exact ⟨rfl, rfl⟩
/-- a leaf or not -/
theorem Rep.leaf {h : Heap} {F : Nat → Prop} {t : T 0} {v : Value} (hr : Rep h F 0 t v) {Y : Option Addr → Prop} {N : Prop} (hY : ∀ p, v = .iface lfT (.pointer (some ⟨p, 0, none⟩)) → Y (some ⟨p, 0, none⟩)) : isP v lfT Y N := by
  obtain ⟨p, ka, kl, kc, va, vl, vc, rfl, _⟩ := hr
  exact hY p rfl
theorem Rep.inner {h : Heap} {F : Nat → Prop} {n : Nat} {t : T (n + 1)} {v : Value} (hr : Rep h F (n + 1) t v) {Y : Option Addr → Prop} {N : Prop} (hY : ∀ p, v = .iface inT (.pointer (some ⟨p, 0, none⟩)) → Y (some ⟨p, 0, none⟩)) : isP v inT Y N := by
  obtain ⟨p, ka, kl, kc, sa, sl, sc, vs, rfl, _⟩ := hr
  exact hY p rfl
theorem Rep.not_leaf {h : Heap} {F : Nat → Prop} {n : Nat} {t : T (n + 1)} {v : Value} (hr : Rep h F (n + 1) t v) {Y : Option Addr → Prop} {N : Prop} (hN : N) : isP v lfT Y N := by
  obtain ⟨p, ka, kl, kc, sa, sl, sc, vs, rfl, _⟩ := hr
  exact hN
theorem Rep.not_inner {h : Heap} {F : Nat → Prop} {t : T 0} {v : Value} (hr : Rep h F 0 t v) {Y : Option Addr → Prop} {N : Prop} (hN : N) : isP v inT Y N := by
  obtain ⟨p, ka, kl, kc, va, vl, vc, rfl, _⟩ := hr
  exact hN
end Go.Proofs.Ytopnljjfpfnhfaa
