/- PRep PAll PAllB PTr PPutF PMk PPut joined, for seat work that lacks some functions; written by wip/tool/cut.py. -/
import Derived.Test.YtkgocfaajfaidaaPTyT
namespace Go.Proofs.Ytkgocfaajfaidaa
open Go D
set_option linter.unusedVariables false
set_option linter.unusedSimpArgs false
abbrev KV := Key × Key
/-- a tree of height n: all leaves lie equally deep -/
def T : Nat → Type
  | 0 => List KV
  | n + 1 => List Key × List (T n)
/-- its pairs, from left to right -/
def prs : (n : Nat) → T n → List KV
  | 0, t => t
  | n + 1, t => (t.2.map (prs n)).flatten

/-- v is that tree; its blocks lie in F -/
def Rep (h : Heap) (F : Nat → Prop) : (n : Nat) → T n → Value → Prop
  | 0, t, v => ∃ p ka kl kc va vl vc, v = .iface lfT (.pointer (some ⟨p, 0, none⟩)) ∧ F p ∧ Row h p [.slice ka kl kc, .slice va vl vc] ∧
      Rv h ka kl (keysV (t.map (·.1))) ∧ Rv h va vl (keysV (t.map (·.2))) ∧ (∀ b, blk ka b → F b) ∧ (∀ b, blk va b → F b)
  | n + 1, t, v => ∃ p ka kl kc sa sl sc vs, v = .iface inT (.pointer (some ⟨p, 0, none⟩)) ∧ F p ∧ Row h p [.slice ka kl kc, .slice sa sl sc] ∧
      Rv h ka kl (keysV t.1) ∧ Rv h sa sl vs ∧ sl ≤ sc ∧ (∀ b, blk ka b → F b) ∧ (∀ b, blk sa b → F b) ∧ vs.length = t.2.length ∧ ∀ (i : Nat) s w, t.2[i]? = some s → vs[i]? = some w → Rep h F n s w

theorem Rep.mono {h : Heap} {F F' : Nat → Prop} (hF : ∀ b, F b → F' b) : ∀ {n : Nat} {t : T n} {v : Value}, Rep h F n t v → Rep h F' n t v
  | 0, t, v, ⟨p, ka, kl, kc, va, vl, vc, e, f, r, k1, k2, f1, f2⟩ => ⟨p, ka, kl, kc, va, vl, vc, e, hF _ f, r, k1, k2, fun b hb => hF _ (f1 b hb), fun b hb => hF _ (f2 b hb)⟩
  | n + 1, t, v, ⟨p, ka, kl, kc, sa, sl, sc, vs, e, f, r, k1, k2, lc, f1, f2, l, hs⟩ =>
    ⟨p, ka, kl, kc, sa, sl, sc, vs, e, hF _ f, r, k1, k2, lc, fun b hb => hF _ (f1 b hb), fun b hb => hF _ (f2 b hb), l, fun i s w h1 h2 => Rep.mono hF (hs i s w h1 h2)⟩
theorem Rep.keep {h h' : Heap} {F S : Nat → Prop} (hk : Keep S h h') (hS : ∀ b, F b → ¬ S b) : ∀ {n : Nat} {t : T n} {v : Value}, Rep h F n t v → Rep h' F n t v
  | 0, t, v, ⟨p, ka, kl, kc, va, vl, vc, e, f, r, k1, k2, f1, f2⟩ => ⟨p, ka, kl, kc, va, vl, vc, e, f, hk.row r (hS _ f), k1.keep hk (fun _ b hb => hS _ (f1 b hb)), k2.keep hk (fun _ b hb => hS _ (f2 b hb)), f1, f2⟩
  | n + 1, t, v, ⟨p, ka, kl, kc, sa, sl, sc, vs, e, f, r, k1, k2, lc, f1, f2, l, hs⟩ =>
    ⟨p, ka, kl, kc, sa, sl, sc, vs, e, f, hk.row r (hS _ f), k1.keep hk (fun _ b hb => hS _ (f1 b hb)), k2.keep hk (fun _ b hb => hS _ (f2 b hb)), lc, f1, f2, l, fun i s w h1 h2 => Rep.keep hk hS (hs i s w h1 h2)⟩
theorem Rep.nw {h h' : Heap} {F : Nat → Prop} (hk : Nw h h') {n : Nat} {t : T n} {v : Value} (hr : Rep h F n t v) : Rep h' F n t v := hr.keep hk (fun _ _ h => h)
theorem Rep.one {h : Heap} {F : Nat → Prop} {n : Nat} {t : T n} {v : Value} (hr : Rep h F n t v) : v.cells = #[v] ∧ v.oneCell' = true := by
  cases n with
  | zero => obtain ⟨p, ka, kl, kc, va, vl, vc, rfl, _⟩ := hr; exact ⟨rfl, rfl⟩
  | succ n => obtain ⟨p, ka, kl, kc, sa, sl, sc, vs, rfl, _⟩ := hr; exact ⟨rfl, rfl⟩
/-- a leaf or not -/
theorem Rep.leaf {h : Heap} {F : Nat → Prop} {t : T 0} {v : Value} (hr : Rep h F 0 t v) {Y : Option Addr → Prop} {N : Prop} (hY : ∀ p, v = .iface lfT (.pointer (some ⟨p, 0, none⟩)) → Y (some ⟨p, 0, none⟩)) : isP v lfT Y N := by
  obtain ⟨p, ka, kl, kc, va, vl, vc, rfl, _⟩ := hr
  exact hY p rfl
theorem Rep.inner {h : Heap} {F : Nat → Prop} {n : Nat} {t : T (n + 1)} {v : Value} (hr : Rep h F (n + 1) t v) {Y : Option Addr → Prop} {N : Prop} (hY : ∀ p, v = .iface inT (.pointer (some ⟨p, 0, none⟩)) → Y (some ⟨p, 0, none⟩)) : isP v inT Y N := by
  obtain ⟨p, ka, kl, kc, sa, sl, sc, vs, rfl, _⟩ := hr
  exact hY p rfl
theorem Rep.not_leaf {h : Heap} {F : Nat → Prop} {n : Nat} {t : T (n + 1)} {v : Value} (hr : Rep h F (n + 1) t v) {Y : Option Addr → Prop} {N : Prop} (hN : N) : isP v lfT Y N := by
  obtain ⟨p, ka, kl, kc, sa, sl, sc, vs, rfl, _⟩ := hr
  exact hN
theorem Rep.not_inner {h : Heap} {F : Nat → Prop} {t : T 0} {v : Value} (hr : Rep h F 0 t v) {Y : Option Addr → Prop} {N : Prop} (hN : N) : isP v inT Y N := by
  obtain ⟨p, ka, kl, kc, va, vl, vc, rfl, _⟩ := hr
  exact hN
/-- the pairs from k on, as the iterator goes for them -/
def frm (k : Key) : (n : Nat) → T n → List KV
  | 0, t => List.drop (below k (List.map (·.1) t)) t
  | n + 1, t => ((t.2.drop (upto k t.1)).map (frm k n)).flatten

theorem isP_no {t t' : TypeId} {p : Value} {Y : Option Addr → Prop} {N : Prop} (ht : Nat.beq t' t = false) (hN : N) : isP (.iface t' p) t Y N := by unfold isP; simp only [ht]; exact hN
theorem isP_yes {t t' : TypeId} {o : Option Addr} {Y : Option Addr → Prop} {N : Prop} (ht : Nat.beq t' t = true) (hY : Y o) : isP (.iface t' (.pointer o)) t Y N := by unfold isP; simp only [ht]; exact hY

theorem seq_leaf {h : Heap} {F : Nat → Prop} {v : Value} {b1 b3 : Nat} {k : Key} {t : List KV} (hr : Rep h F 0 t v) (hF : ∀ b, F b → b < h.size) (hA : Asc (t.map (·.1))) (hl : t.length ≤ 1000000) (r1 : Row h b1 [v]) (r3 : Row h b3 [.string k]) :
    SeqC Try.prog (.func (.func btree_all_1_no) #[] #[.pointer (some ⟨b1, 0, none⟩), .pointer (some ⟨b3, 0, none⟩)]) [.str, .str] h (fun b => F b ∨ b = b1 ∨ b = b3) (t.drop (below k (t.map (·.1)))) := by
  refine ⟨btree_all_1_no, #[], #[.pointer (some ⟨b1, 0, none⟩), .pointer (some ⟨b3, 0, none⟩)], rfl, by kernel_rfl, by kernel_rfl, ?_⟩
  intro y J O h1 kp stab ndf j0 hO round
  have hcall := btree_all_1_call (.func (.yield y) #[] #[]) (some ⟨b1, 0, none⟩) (some ⟨b3, 0, none⟩) (R := fun _ h4 => ∃ g pre O', J g pre O' h4 ∧ (g = true → pre = t.drop (below k (t.map (·.1))))) (h := h1)
  apply hcall
  clear hcall
  unfold btree_all_1
  refine ⟨rfl, newB_row ?_⟩
  intro h2 s2 rY kY
  have hD : ∀ b, (F b ∨ b = b1 ∨ b = b3) → b < h.size := fun b hb => by
    rcases hb with hb | rfl | rfl
    · exact hF b hb
    · exact r1.lt
    · exact r3.lt
  have hz1 := kp.size
  have K2 : Keep (fun b => ¬ (F b ∨ b = b1 ∨ b = b3)) h h2 := kp.trans kY (fun _ _ h => h.elim)
  have j2 : J true [] O h2 := stab _ _ _ _ _ j0 (kY.mono (fun _ _ h => h.elim))
  have R1 : Row h2 b1 [v] := K2.row r1 (fun hh => hh (.inr (.inl rfl)))
  have R3 : Row h2 b3 [.string k] := K2.row r3 (fun hh => hh (.inr (.inr rfl)))
  have hr2 : Rep h2 F 0 t v := hr.keep K2 (fun b hb hh => hh (.inl hb))
  obtain ⟨p, ka, kl, kc, va, vl, vc, rfl, fp, row, k1, k2, f1, f2⟩ := hr2
  have ldv : ∀ {K : Value → Prop}, K (.iface lfT (.pointer (some ⟨p, 0, none⟩))) → ldV ⟨b1, 0, none⟩ h2 K := fun hK => ⟨_, by rw [R1.cells]; rfl, hK⟩
  refine ldv ?_
  refine isP_no rfl ?_
  refine cnd_t rfl ?_
  refine ldv ?_
  refine isP_yes rfl ?_
  refine ldL_row (o := 0) row rfl ?_
  refine ldS_row (o := 0) R3 rfl ?_
  have len1 : kl = t.length := by have := k1.1; simpa using this
  have len2 : vl = t.length := by have := k2.1; simpa using this
  refine bsearch_spec k1 hA (by omega) ?_
  have hm := below_le k (t.map (·.1))
  rw [List.length_map] at hm
  generalize hmm : below k (t.map (·.1)) = m at hm round ⊢
  refine LoopT.intro (fun (s : Int) h' => ∃ (i : Nat) (O' : Nat → Prop), s = (i : Int) ∧ m ≤ i ∧ i ≤ t.length ∧ J true ((t.drop m).take (i - m)) O' h' ∧ Keep (fun b => ¬ ((F b ∨ b = b1 ∨ b = b3) ∨ b = h1.size)) h2 h' ∧ ∀ b, O' b → ¬ ((F b ∨ b = b1 ∨ b = b3) ∨ b = h1.size) ∧ b < h'.size) (fun s _ => ((t.length : Int) - s).toNat)
    ⟨m, O, rfl, Nat.le_refl _, hm, by rw [Nat.sub_self, List.take_zero]; exact j2, Keep.refl _ _, fun b hb => ⟨fun hh => ?_, by have := (hO b hb).2; omega⟩⟩ ?_
  · rcases hh with hh | rfl
    · exact (hO b hb).1 hh
    · have := (hO _ hb).2; omega
  rintro s h' ⟨i, O', rfl, g1, g2, ji, kk, ho⟩
  have row' : Row h' p [.slice ka kl kc, .slice va vl vc] := kk.row row (fun hh => hh (.inl (.inl fp)))
  have rY' : Row h' h1.size [.func (.yield y) #[] #[]] := kk.row rY (fun hh => hh (.inr rfl))
  have k1' := k1.keep kk (fun _ b hb hh => hh (.inl (.inl (f1 b hb))))
  have k2' := k2.keep kk (fun _ b hb hh => hh (.inl (.inl (f2 b hb))))
  refine ldL_row (o := 0) row' rfl ?_
  have fin : ∀ (g : Bool) pre (O'' : Nat → Prop) (h5 : Heap), J g pre O'' h5 → (g = true → pre = t.drop m) → shutX h1.size h5 fun h6 => ∃ g pre O', J g pre O' h6 ∧ (g = true → pre = t.drop m) := by
    intro g pre O'' h5 hj hg h6 hz hs
    exact ⟨g, pre, O'', stab _ _ _ _ _ hj (shut_keep hz hs (ndf _ _ _ _ hj)), hg⟩
  refine cnd_dec (fun c1 => ?_) (fun c1 => ?_)
  · have hi : i < t.length := by have : (i : Int) < (kl : Int) := c1; omega
    refine ⟨_, by rw [rY'.cells]; rfl, ?_⟩
    refine ldL_row (o := 0) row' rfl ?_
    refine Rv.at k1' (by omega) (by omega) (v := .string (t[i]).1) (by rw [Int.toNat_natCast, List.getElem?_map, List.getElem?_map, List.getElem?_eq_getElem hi]; rfl) ?_
    intro z1 hz1'
    refine ⟨_, hz1', ?_⟩
    refine ldL_row (o := 0 + 1) row' rfl ?_
    refine Rv.at k2' (by omega) (by omega) (v := .string (t[i]).2) (by rw [Int.toNat_natCast, List.getElem?_map, List.getElem?_map, List.getElem?_eq_getElem hi]; rfl) ?_
    intro z2 hz2
    refine ⟨_, hz2, ?_⟩
    have hpre : (t.drop m).take (i - m) ++ [t[i]] = (t.drop m).take (i + 1 - m) := by
      rw [show i + 1 - m = (i - m) + 1 by omega, List.take_succ_eq_append_getElem (by rw [List.length_drop]; omega), List.getElem_drop]
      congr 2
      congr 1; omega
    refine .inr ⟨y, rfl, YldT.mono (round _ (t[i]) O' h' ji ?_) ?_⟩
    · rw [hpre]; exact List.take_prefix _ _
    · rintro b h3 ⟨O2, j3, k3, gr⟩
      rw [hpre] at j3
      cases b with
      | false =>
        refine cnd_t rfl ?_
        exact fin _ _ _ _ j3 (fun e => by cases e)
      | true =>
        refine cnd_f rfl ?_
        have z2' := kk.size
        have e1 : w64 ((i : Int) + 1) = ((i + 1 : Nat) : Int) := by rw [w64_id (by omega) (by omega)]; push_cast; rfl
        refine ⟨⟨i + 1, O2, e1, by omega, by omega, j3, kk.trans k3 (fun b _ hb => (ho b hb).1), fun b hb => ⟨fun hh => ?_, (gr b hb).2⟩⟩, ?_⟩
        · rcases (gr b hb).1 with h4 | h4
          · exact (ho b h4).1 hh
          · rcases hh with hh | rfl
            · have := hD b hh; omega
            · omega
        · rw [e1]; omega
  · have hi : i = t.length := by have : ¬ (i : Int) < (kl : Int) := c1; omega
    subst hi
    refine fin _ _ _ _ ji (fun _ => ?_)
    rw [List.take_of_length_le (by rw [List.length_drop]; omega)]
/-- keys rise in every node; as many sons as keys and one; nothing is very great -/
def Srt : (n : Nat) → T n → Prop
  | 0, t => Asc (List.map (·.1) t) ∧ List.length t ≤ 1000000
  | n + 1, t => Asc t.1 ∧ t.2.length = t.1.length + 1 ∧ t.2.length ≤ 1000000 ∧ ∀ s ∈ t.2, Srt n s

theorem all_spec {h : Heap} {v : Value} {k : Key} (hv : v.cells = #[v]) {R : Value → Heap → Prop}
    (hk : ∀ h', Nw h h' → h'.size = h.size + 2 → Row h' h.size [v] → Row h' (h.size + 1) [.string k] → R (.func (.func btree_all_1_no) #[] #[.pointer (some ⟨h.size, 0, none⟩), .pointer (some ⟨h.size + 1, 0, none⟩)]) h') : CallT Try.prog btree_all_no [v, .string k] h [.sc .raw] R := by
  have hcall := btree_all_call v k (R := R) (h := h)
  apply hcall
  unfold btree_all
  refine ⟨hv, newB_row ?_⟩
  intro h1 s1 r1 k1
  refine newB_row ?_
  intro h2 s2 r2 k2
  rw [s1] at r2 ⊢
  exact hk h2 (k1.trans' k2) (by omega) (k2.row r1 (fun h => h)) r2

theorem seq_all : ∀ (n : Nat) {h : Heap} {F : Nat → Prop} {v : Value} {b1 b3 : Nat} {k : Key} {t : T n} (hr : Rep h F n t v) (hF : ∀ b, F b → b < h.size) (hA : Srt n t) (r1 : Row h b1 [v]) (r3 : Row h b3 [.string k]),
    SeqC Try.prog (.func (.func btree_all_1_no) #[] #[.pointer (some ⟨b1, 0, none⟩), .pointer (some ⟨b3, 0, none⟩)]) [.str, .str] h (fun b => F b ∨ b = b1 ∨ b = b3) (frm k n t)
  | 0, h, F, v, b1, b3, k, t, hr, hF, hA, r1, r3 => seq_leaf hr hF hA.1 hA.2 r1 r3
  | n + 1, h, F, v, b1, b3, k, t, hr, hF, hA, r1, r3 => by
    refine ⟨btree_all_1_no, #[], #[.pointer (some ⟨b1, 0, none⟩), .pointer (some ⟨b3, 0, none⟩)], rfl, by kernel_rfl, by kernel_rfl, ?_⟩
    intro y J O h1 kp stab ndf j0 hO round
    have hcall := btree_all_1_call (.func (.yield y) #[] #[]) (some ⟨b1, 0, none⟩) (some ⟨b3, 0, none⟩) (R := fun _ h4 => ∃ g pre O', J g pre O' h4 ∧ (g = true → pre = frm k (n + 1) t)) (h := h1)
    apply hcall
    clear hcall
    unfold btree_all_1
    refine ⟨rfl, newB_row ?_⟩
    intro h2 s2 rY kY
    have hD : ∀ b, (F b ∨ b = b1 ∨ b = b3) → b < h.size := fun b hb => by
      rcases hb with hb | rfl | rfl
      · exact hF b hb
      · exact r1.lt
      · exact r3.lt
    have hz1 := kp.size
    have K2 : Keep (fun b => ¬ (F b ∨ b = b1 ∨ b = b3)) h h2 := kp.trans kY (fun _ _ h => h.elim)
    have j2 : J true [] O h2 := stab _ _ _ _ _ j0 (kY.mono (fun _ _ h => h.elim))
    have R1 : Row h2 b1 [v] := K2.row r1 (fun hh => hh (.inr (.inl rfl)))
    have R3 : Row h2 b3 [.string k] := K2.row r3 (fun hh => hh (.inr (.inr rfl)))
    have hr2 : Rep h2 F (n + 1) t v := hr.keep K2 (fun b hb hh => hh (.inl hb))
    obtain ⟨p, ka, kl, kc, sa, sl, sc, vs, rfl, fp, row, k1, k2, lc, f1, f2, lv, hsons⟩ := hr2
    have ldv : ∀ {K : Value → Prop}, K (.iface inT (.pointer (some ⟨p, 0, none⟩))) → ldV ⟨b1, 0, none⟩ h2 K := fun hK => ⟨_, by rw [R1.cells]; rfl, hK⟩
    refine ldv ?_
    refine isP_yes rfl ?_
    refine cnd_f rfl ?_
    refine ldL_row (o := 0 + 1) row rfl ?_
    refine ldS_row (o := 0) R3 rfl ?_
    obtain ⟨a1, a2, a3, a4⟩ := hA
    have len1 : kl = t.1.length := by have := k1.1; simpa using this
    have len2 : sl = t.2.length := by have := k2.1; omega
    refine at_spec (x := ⟨p, 0, none⟩) (by rw [row.cells]; rfl) k1 a1 (by omega) ?_
    intro h38 n38
    have row38 := n38.row row (fun h => h)
    refine ⟨ldL_row (o := 0 + 1) row38 rfl rfl, ?_⟩
    have hm := upto_le k t.1
    generalize hmm : upto k t.1 = m at hm
    refine k2.sub (by omega) (by omega) (by omega) (by omega) (by omega) ?_
    intro o40 rv40 hb40
    have e40 : ((sl : Int) - (m : Int)).toNat = sl - m := by omega
    rw [e40, Int.toNat_natCast] at rv40
    rw [e40]
    have hfrm : frm k (n + 1) t = ((t.2.drop m).map (frm k n)).flatten := by show ((t.2.drop (upto k t.1)).map (frm k n)).flatten = _; rw [hmm]
    rw [hfrm] at round ⊢
    generalize hxs : (t.2.drop m).map (frm k n) = xs at round ⊢
    have lxs : xs.length = sl - m := by rw [← hxs, List.length_map, List.length_drop]; omega
    refine LoopT.intro (fun (s : Int) h' => ∃ (i : Nat) (O' : Nat → Prop), s = (i : Int) ∧ i ≤ sl - m ∧ J true (xs.take i).flatten O' h' ∧ Keep (fun b => ¬ ((F b ∨ b = b1 ∨ b = b3) ∨ b = h1.size)) h2 h' ∧ ∀ b, O' b → ¬ ((F b ∨ b = b1 ∨ b = b3) ∨ b = h1.size) ∧ b < h'.size) (fun s _ => (((sl - m : Nat) : Int) - s).toNat)
      ⟨0, O, rfl, Nat.zero_le _, stab _ _ _ _ _ j2 (n38.mono (fun _ _ h => h.elim)), n38.mono (fun _ _ h => h.elim), fun b hb => ⟨fun hh => ?_, by have := (hO b hb).2; have := n38.size; omega⟩⟩ ?_
    · rcases hh with hh | rfl
      · exact (hO b hb).1 hh
      · have := (hO _ hb).2; omega
    rintro s h' ⟨i, O', rfl, g2, ji, kk, ho⟩
    have fin : ∀ (g : Bool) pre (O'' : Nat → Prop) (h5 : Heap), J g pre O'' h5 → (g = true → pre = xs.flatten) → shutX h1.size h5 fun h6 => ∃ g pre O', J g pre O' h6 ∧ (g = true → pre = xs.flatten) := by
      intro g pre O'' h5 hj hg h6 hz hs
      exact ⟨g, pre, O'', stab _ _ _ _ _ hj (shut_keep hz hs (ndf _ _ _ _ hj)), hg⟩
    refine cnd_dec (fun c1 => ?_) (fun c1 => ?_)
    · have hi : i < sl - m := by have : (i : Int) < ((sl - m : Nat) : Int) := c1; omega
      have hi2 : m + i < t.2.length := by omega
      have hi3 : m + i < vs.length := by omega
      have zk := kk.size
      have rv' := rv40.keep kk (fun _ b hb hh => hh (.inl (.inl (f2 b (hb40 b hb)))))
      refine Rv.at rv' (by omega) (by omega) (v := vs[m + i]) (by rw [Int.toNat_natCast, List.getElem?_take, if_pos hi, List.getElem?_drop, List.getElem?_eq_getElem hi3]) ?_
      intro z hz
      refine ⟨_, hz, ?_⟩
      have R3' : Row h' b3 [.string k] := kk.row R3 (fun hh => hh (.inl (.inr (.inr rfl))))
      refine ldS_row (o := 0) R3' rfl ?_
      have son : Rep h' F n (t.2[m + i]) vs[m + i] := (hsons (m + i) _ _ (List.getElem?_eq_getElem hi2) (List.getElem?_eq_getElem hi3)).keep kk (fun b hb hh => hh (.inl (.inl hb)))
      refine all_spec son.one.1 ?_
      intro h49 n49 s49 q1 q3
      have hFl : ∀ b, F b → b < h'.size := fun b hb => by have := hF b hb; omega
      have sq := seq_all n (son.nw n49) (fun b hb => by have := hFl b hb; omega) (a4 _ (List.getElem_mem hi2)) q1 q3
      have xi : frm k n t.2[m + i] = xs[i]'(by omega) := by simp only [← hxs, List.getElem_map, List.getElem_drop]
      rw [xi] at sq
      have hcut : xs.flatten = (xs.take i).flatten ++ (xs[i]'(by omega) ++ (xs.drop (i + 1)).flatten) := by
        conv => lhs; rw [← List.take_append_drop i xs, List.drop_eq_getElem_cons (show i < xs.length by omega)]
        rw [List.flatten_append, List.flatten_cons]
      refine rngX_intro sq (fun b hb => ?_) (fun ex pre O2 hh => ∃ g, J g ((xs.take i).flatten ++ pre) O2 hh ∧ ((ex = .nrm ∧ g = true) ∨ (ex = .ret ∧ g = false)) ∧ Keep (fun b => ¬ ((F b ∨ b = b1 ∨ b = b3) ∨ b = h1.size)) h2 hh ∧ (∀ b, O2 b → ¬ ((F b ∨ b = b1 ∨ b = b3) ∨ b = h1.size) ∧ b < hh.size)) O' ?_ (fun b hb => ⟨fun hd => ?_, ?_⟩) ?_ ?_ ?_ ?_ ?_ ?_ ?_
      · rcases hb with hb | rfl | rfl
        · have := hFl b hb; omega
        · omega
        · omega
      · refine ⟨true, ?_, .inl ⟨rfl, rfl⟩, kk.trans n49 (fun _ _ h => h.elim), fun b hb => ⟨(ho b hb).1, by have := (ho b hb).2; omega⟩⟩
        rw [List.append_nil]
        exact stab _ _ _ _ _ ji (n49.mono (fun _ _ h => h.elim))
      · have h5 := ho b hb
        rcases hd with hd | rfl | rfl
        · exact h5.1 (.inl (.inl hd))
        · omega
        · omega
      · have := (ho b hb).2; omega
      · rintro ex pre O2 ha hb ⟨g, j1, e1, k4, o4⟩ hk
        refine ⟨g, stab _ _ _ _ _ j1 (hk.mono (fun b _ hh => ⟨hh.1, by omega⟩)), e1, k4.trans hk (fun b hb hh => by have := hh.2; omega), fun b hb => ⟨(o4 b hb).1, by have := (o4 b hb).2; have := hk.size; omega⟩⟩
      · rintro ex pre O2 ha ⟨g, j1, _⟩
        exact ndf _ _ _ _ j1
      · rintro rb lb pre x O2 ha M Qb ⟨g, j1, e1, k4, o4⟩ hpre hlt hlb hlb2 hlb3 hM hQ
        have hg : g = true := by
          rcases e1 with ⟨_, e⟩ | ⟨e, _⟩
          · exact e
          · cases e
        subst hg
        refine hM ha _ (Keep.refl _ _) ?_
        intro h4 z4 kl4 hrb
        have rY4 : Row h4 h1.size [.func (.yield y) #[] #[]] := kl4.row (k4.row rY (fun hh => hh (.inr rfl))) (fun e => by have e' : h1.size = lb := e; omega)
        refine ⟨_, by rw [rY4.cells]; rfl, ?_⟩
        refine .inr ⟨y, rfl, YldT.mono (round ((xs.take i).flatten ++ pre) x O2 h4 (stab _ _ _ _ _ j1 (kl4.mono (fun b _ e => by have e' : b = lb := e; subst e'; exact ⟨hlb, by omega⟩))) ?_) ?_⟩
        · obtain ⟨r, hr⟩ := hpre
          refine ⟨r ++ (xs.drop (i + 1)).flatten, ?_⟩
          rw [hcut, ← hr]
          simp only [List.append_assoc]
        · rintro b h3 ⟨O3, j3, k3, gr⟩
          rw [List.append_assoc] at j3
          have kq : Keep (fun b => O2 b ∨ b = lb) ha h3 := (kl4.mono (fun b _ e => .inr e)).trans k3 (fun b _ hb => .inl hb)
          have rb3 : h3[lb]? = some rb := by rw [k3.same lb (by omega) hlb]; exact hrb
          have gr' : Grow O2 O3 ha h3 := fun b hb => by rw [← z4]; exact gr b hb
          have kz := k4.size
          have kP : Keep (fun b => ¬ ((F b ∨ b = b1 ∨ b = b3) ∨ b = h1.size)) h2 h3 := k4.trans kq (fun b hb hh => by
            rcases hh with hh | rfl
            · exact (o4 b hh).1
            · omega)
          have oP : ∀ b, O3 b → ¬ ((F b ∨ b = b1 ∨ b = b3) ∨ b = h1.size) ∧ b < h3.size := fun b hb => ⟨fun hh => by
            rcases (gr' b hb).1 with h5 | h5
            · exact (o4 b h5).1 hh
            · rcases hh with hh | rfl
              · have := hD b hh; omega
              · omega, (gr' b hb).2⟩
          cases b with
          | false => exact cnd_t rfl (hQ .ret h3 ⟨O3, ⟨false, j3, .inr ⟨rfl, rfl⟩, kP, oP⟩, kq, rb3, gr'⟩)
          | true => exact cnd_f rfl (hQ .nrm h3 ⟨O3, ⟨true, j3, .inl ⟨rfl, rfl⟩, kP, oP⟩, kq, rb3, gr'⟩)
      · rintro O2 h5 ⟨g, j1, e1, k4, o4⟩
        have hg : g = true := by
          rcases e1 with ⟨_, e⟩ | ⟨e, _⟩
          · exact e
          · cases e
        subst hg
        have ew : w64 ((i : Int) + 1) = ((i + 1 : Nat) : Int) := by rw [w64_id (by omega) (by omega)]; push_cast; rfl
        refine ⟨⟨i + 1, O2, ew, by omega, ?_, k4, o4⟩, ?_⟩
        · have : xs.take (i + 1) = xs.take i ++ [xs[i]'(by omega)] := List.take_succ_eq_append_getElem (by omega)
          rw [this, List.flatten_append, List.flatten_singleton]
          exact j1
        · rw [ew]; omega
      · rintro pre O2 h5 ⟨g, j1, e1, k4, o4⟩
        have hg : g = false := by
          rcases e1 with ⟨e, _⟩ | ⟨_, e⟩
          · cases e
          · exact e
        subst hg
        exact fin _ _ _ _ j1 (fun e => by cases e)
      · rintro i pre O2 h5 ⟨g, j1, e1, _⟩
        rcases e1 with ⟨e, _⟩ | ⟨e, _⟩ <;> cases e
      · rintro i pre O2 h5 ⟨g, j1, e1, _⟩
        rcases e1 with ⟨e, _⟩ | ⟨e, _⟩ <;> cases e
    · have hi : i = sl - m := by have : ¬ (i : Int) < ((sl - m : Nat) : Int) := c1; omega
      refine fin _ _ _ _ ji (fun _ => ?_)
      rw [List.take_of_length_le (by omega)]
/-- block p is a Tree: its root is t, and the number of its pairs -/
def TRep (h : Heap) (F : Nat → Prop) (n : Nat) (t : T n) (p : Nat) : Prop := ∃ v, Row h p [v, .int .i64 ((prs n t).length : Int)] ∧ F p ∧ Rep h F n t v
theorem TRep.keep {h h' : Heap} {F S : Nat → Prop} (hk : Keep S h h') (hS : ∀ b, F b → ¬ S b) {n : Nat} {t : T n} {p : Nat} (hr : TRep h F n t p) : TRep h' F n t p := by
  obtain ⟨v, r, f, q⟩ := hr
  exact ⟨v, hk.row r (hS _ f), f, q.keep hk hS⟩
theorem TRep.mono {h : Heap} {F F' : Nat → Prop} (hF : ∀ b, F b → F' b) {n : Nat} {t : T n} {p : Nat} (hr : TRep h F n t p) : TRep h F' n t p := by
  obtain ⟨v, r, f, q⟩ := hr
  exact ⟨v, r, hF _ f, q.mono hF⟩
theorem TRep.nw {h h' : Heap} {F : Nat → Prop} (hk : Nw h h') {n : Nat} {t : T n} {p : Nat} (hr : TRep h F n t p) : TRep h' F n t p := hr.keep hk (fun _ _ h => h)

theorem len_spec {h : Heap} {F : Nat → Prop} {n : Nat} {t : T n} {p : Nat} (hr : TRep h F n t p) {R : Int → Heap → Prop} (hk : R ((prs n t).length : Int) h) : CallT Try.prog btree_Tree_Len_no [.pointer (some ⟨p, 0, none⟩)] h [.sc (.int .i64)] R := by
  obtain ⟨v, r, f, q⟩ := hr
  apply btree_Tree_Len_call
  unfold btree_Tree_Len
  exact ldI_row (o := 0 + 1) r rfl hk
theorem new_spec {h : Heap} {R : Option Addr → Heap → Prop} (hk : ∀ p h', Nw h h' → h.size ≤ p → TRep h' (fun b => h.size ≤ b ∧ b < h'.size) 0 ([] : List KV) p → R (some ⟨p, 0, none⟩) h') : CallT Try.prog btree_New_no [] h [.sc .ptr] R := by
  apply btree_New_call
  unfold btree_New
  refine newB_row ?_
  intro h1 s1 r1 k1
  refine ⟨rfl, newB_row ?_⟩
  intro h2 s2 r2 k2
  refine hk h1.size h2 (k1.trans' k2) (by omega) ⟨_, r2, ⟨by omega, by omega⟩, h.size, none, 0, 0, none, 0, 0, rfl, ⟨by omega, by omega⟩, k2.row r1 (fun h => h), ?_, ?_, ?_, ?_⟩
  · exact ⟨rfl, fun i v hv => by simp at hv⟩
  · exact ⟨rfl, fun i v hv => by simp at hv⟩
  · rintro b ⟨x, e, _⟩; cases e
  · rintro b ⟨x, e, _⟩; cases e
theorem from_spec {h : Heap} {F : Nat → Prop} {n : Nat} {t : T n} {p : Nat} {k : Key} (hr : TRep h F n t p) (hF : ∀ b, F b → b < h.size) (hs : Srt n t) {R : Value → Heap → Prop}
    (hk : ∀ r h', Nw h h' → h'.size = h.size + 2 → SeqC Try.prog r [.str, .str] h' (fun b => F b ∨ b = h.size ∨ b = h.size + 1) (frm k n t) → R r h') : CallT Try.prog btree_Tree_From_no [.pointer (some ⟨p, 0, none⟩), .string k] h [.sc .raw] R := by
  obtain ⟨v, r, f, q⟩ := hr
  apply btree_Tree_From_call
  unfold btree_Tree_From
  refine ⟨v, by rw [r.cells]; rfl, ?_⟩
  refine all_spec q.one.1 ?_
  intro h2 n2 s2 r1 r3
  exact hk _ h2 n2 s2 (seq_all n (q.nw n2) (fun b hb => by have := hF b hb; omega) hs r1 r3)
/-- a leaf with a pair, whole -/
def leafF (t : List KV) (k v : Key) : List KV × Bool :=
  let m := below k (t.map (·.1))
  if (t.map (·.1))[m]? = some k then (t.set m (k, v), false) else (insL t m (k, v), true)
/-- in two, where it is too long -/
def cutF (t : List KV) : T 0 × Option (Key × T 0) :=
  if t.length ≤ 8 then (t, none) else (t.take (t.length / 2), some ((t[t.length / 2]?.map (·.1)).getD ⟨#[]⟩, t.drop (t.length / 2)))
def cutN {n : Nat} (ks : List Key) (ss : List (T n)) : T (n + 1) × Option (Key × T (n + 1)) :=
  if ss.length ≤ 8 then ((ks, ss), none) else ((ks.take (ss.length / 2 - 1), ss.take (ss.length / 2)), some ((ks[ss.length / 2 - 1]?).getD ⟨#[]⟩, (ks.drop (ss.length / 2), ss.drop (ss.length / 2))))
def putF (k v : Key) : (n : Nat) → T n → (T n × Option (Key × T n)) × Bool
  | 0, t => if (leafF t k v).2 then (cutF (leafF t k v).1, true) else (((leafF t k v).1, none), false)
  | n + 1, t => match t.2[upto k t.1]? with
    | none => ((t, none), false)
    | some s => match putF k v n s with
      | ((a, none), more) => (((t.1, t.2.set (upto k t.1) a), none), more)
      | ((a, some (m, b)), more) => (cutN (insL t.1 (upto k t.1) m) (insL (t.2.set (upto k t.1) a) (upto k t.1 + 1) b), more)

/-- pairs with one more, or with another value -/
def insKV (k v : Key) : List KV → List KV
  | [] => [(k, v)]
  | (a, x) :: r => if klt a k then (a, x) :: insKV k v r else if a = k then (k, v) :: r else (k, v) :: (a, x) :: r
theorem leafF_ins (k v : Key) : ∀ t : List KV, (leafF t k v).1 = insKV k v t
  | [] => rfl
  | (a, x) :: r => by
    have ih := leafF_ins k v r
    unfold leafF at ih ⊢
    unfold insKV
    simp only [List.map_cons, below]
    by_cases h : klt a k
    · rw [if_pos h, if_pos h, ← ih]
      simp only [List.getElem?_cons_succ]
      by_cases h2 : (r.map (·.1))[below k (r.map (·.1))]? = some k
      · rw [if_pos h2, if_pos h2]; rfl
      · rw [if_neg h2, if_neg h2]; rfl
    · rw [if_neg h, if_neg h]
      simp only [List.getElem?_cons_zero, Option.some.injEq]
      by_cases h2 : a = k
      · rw [if_pos h2, if_pos h2]; rfl
      · rw [if_neg h2, if_neg h2]; rfl
theorem cutF_prs (t : List KV) : prs 0 (cutF t).1 ++ (match (cutF t).2 with | none => [] | some q => prs 0 q.2) = t := by
  unfold cutF
  split
  · exact List.append_nil _
  · exact List.take_append_drop _ _
/-- blocks laid since h0 -/
def New (h0 h : Heap) (b : Nat) : Prop := h0.size ≤ b ∧ b < h.size
theorem rep_leaf {h0 h : Heap} {F : Nat → Prop} {p : Nat} {r1 r2 : Sl} {t : List KV} (row : Row h p [.slice r1.a r1.len r1.cap, .slice r2.a r2.len r2.cap]) (o1 : Own h0 h 1 r1 (keysV (t.map (·.1)))) (o2 : Own h0 h 1 r2 (keysV (t.map (·.2)))) (hp : h0.size ≤ p) (hF : ∀ b, New h0 h b → F b) :
    Rep h F 0 t (.iface lfT (.pointer (some ⟨p, 0, none⟩))) :=
  ⟨p, r1.a, r1.len, r1.cap, r2.a, r2.len, r2.cap, rfl, hF p ⟨hp, row.lt⟩, row, o1.rv, o2.rv, fun b hb => hF b ⟨o1.fresh b hb, o1.lt hb⟩, fun b hb => hF b ⟨o2.fresh b hb, o2.lt hb⟩⟩
theorem rep_inner {h0 h : Heap} {F : Nat → Prop} {n p : Nat} {r1 r2 : Sl} {ks : List Key} {ss : List (T n)} {vs : List Value} (row : Row h p [.slice r1.a r1.len r1.cap, .slice r2.a r2.len r2.cap]) (o1 : Own h0 h 1 r1 (keysV ks)) (o2 : Own h0 h 1 r2 vs) (hp : h0.size ≤ p) (hF : ∀ b, New h0 h b → F b)
    (hl : vs.length = ss.length) (hs : ∀ (i : Nat) s w, ss[i]? = some s → vs[i]? = some w → Rep h F n s w) : Rep h F (n + 1) (ks, ss) (.iface inT (.pointer (some ⟨p, 0, none⟩))) :=
  ⟨p, r1.a, r1.len, r1.cap, r2.a, r2.len, r2.cap, vs, rfl, hF p ⟨hp, row.lt⟩, row, o1.rv, o2.rv, o2.le, fun b hb => hF b ⟨o1.fresh b hb, o1.lt hb⟩, fun b hb => hF b ⟨o2.fresh b hb, o2.lt hb⟩, hl, hs⟩
theorem newB_raw {h : Heap} {cs : List Value} {t : TypeId} {K : Addr → Heap → Prop} (hk : ∀ h', h'.size = h.size + 1 → h'[h.size]? = some (.cells cs.toArray t (0, 0)) → Row h' h.size cs → Nw h h' → K ⟨h.size, 0, none⟩ h') : newB cs t h K :=
  hk _ (by simp) (by simp) (row_push h cs t) (keep_push h _)
theorem D.Keep.raw {S : Nat → Prop} {h h' : Heap} (hk : Keep S h h') {b : Nat} {o : Obj} (hc : h[b]? = some o) (hn : ¬ S b) : h'[b]? = some o := by
  rw [hk.same b (Array.getElem?_eq_some_iff.1 hc).1 hn]; exact hc
theorem keysV_one (l : List Key) : ∀ v ∈ keysV l, v.oneCell' = true := by intro v hv; obtain ⟨s, _, rfl⟩ := List.mem_map.1 hv; rfl
theorem half_is {n : Nat} (hn : n ≤ 1000000000) : w64 ((n : Int).tdiv 2) = ((n / 2 : Nat) : Int) := by
  have e : (n : Int).tdiv 2 = ((n / 2 : Nat) : Int) := by rw [Int.tdiv_eq_ediv_of_nonneg (by omega)]; omega
  rw [e]; exact w64_id (by omega) (by omega)
theorem D.Rv.lo {h : Heap} {a : Option Addr} {l : Nat} {vs : List Value} (hs : Rv h a l vs) {cap H : Nat} (h1 : H ≤ l) (h2 : l ≤ cap) {K : Option Addr → Nat → Nat → Prop} (hk : ∀ a' c', Rv h a' H (vs.take H) → K a' H c') : lsl 1 a cap 0 (H : Int) (cap : Int) K := by
  refine hs.sub (by omega) (by omega) (by omega) (by omega) (by omega) ?_
  intro a' r _
  have e : ((H : Int) - 0).toNat = H := by omega
  rw [e] at r ⊢
  exact hk a' _ r
theorem D.Rv.hi {h : Heap} {a : Option Addr} {l : Nat} {vs : List Value} (hs : Rv h a l vs) {cap H : Nat} (h1 : H ≤ l) (h2 : l ≤ cap) {K : Option Addr → Nat → Nat → Prop} (hk : ∀ a' c', Rv h a' (l - H) (vs.drop H) → K a' (l - H) c') : lsl 1 a cap (H : Int) (l : Int) (cap : Int) K := by
  refine hs.sub (by omega) (by omega) (by omega) (by omega) (by omega) ?_
  intro a' r _
  have e : ((l : Int) - (H : Int)).toNat = l - H := by omega
  have hl := hs.1
  rw [e, Int.toNat_natCast, List.take_of_length_le (by rw [List.length_drop]; omega)] at r
  rw [e]
  exact hk a' _ r
/-- a second node, or none -/
def Opt (h : Heap) (F : Nat → Prop) (n : Nat) : Option (Key × T n) → Key → Value → Prop
  | none, _, b => b = .nilIface
  | some q, m, b => m = q.1 ∧ Rep h F n q.2 b
/-- a row of nodes -/
def Reps (h : Heap) (F : Nat → Prop) (n : Nat) (ss : List (T n)) (vs : List Value) : Prop := vs.length = ss.length ∧ ∀ (i : Nat) s w, ss[i]? = some s → vs[i]? = some w → Rep h F n s w
section
variable {h h' : Heap} {F F' : Nat → Prop} {n : Nat} {ss : List (T n)} {vs : List Value}
theorem Reps.mono (hr : Reps h F n ss vs) (hF : ∀ b, F b → F' b) : Reps h F' n ss vs := ⟨hr.1, fun i s w h1 h2 => (hr.2 i s w h1 h2).mono hF⟩
theorem Reps.nw (hr : Reps h F n ss vs) (hk : Nw h h') : Reps h' F n ss vs := ⟨hr.1, fun i s w h1 h2 => (hr.2 i s w h1 h2).nw hk⟩
theorem Reps.one (hr : Reps h F n ss vs) : ∀ v ∈ vs, v.oneCell' = true := by
  intro v hv
  obtain ⟨i, hi, rfl⟩ := List.mem_iff_getElem.1 hv
  exact (hr.2 i _ _ (List.getElem?_eq_getElem (by rw [← hr.1]; exact hi)) (List.getElem?_eq_getElem hi)).one.2
theorem Reps.set (hr : Reps h F n ss vs) {a : T n} {v : Value} (ha : Rep h F n a v) (i : Nat) : Reps h F n (ss.set i a) (vs.set i v) := by
  refine ⟨by simp [hr.1], fun j s w h1 h2 => ?_⟩
  rw [List.getElem?_set] at h1 h2
  have hl := hr.1
  split at h1
  · rename_i e
    subst e
    rw [if_pos rfl] at h2
    split at h1
    · rw [if_pos (by omega)] at h2
      injection h1 with h1; injection h2 with h2
      subst h1 h2; exact ha
    · cases h1
  · rename_i e
    rw [if_neg e] at h2
    exact hr.2 j s w h1 h2
theorem Reps.ins (hr : Reps h F n ss vs) {a : T n} {v : Value} (ha : Rep h F n a v) {i : Nat} (hi : i ≤ ss.length) : Reps h F n (insL ss i a) (insL vs i v) := by
  have hl := hr.1
  refine ⟨by rw [insL_len hi, insL_len (by omega), hl], fun j s w h1 h2 => ?_⟩
  rw [insL_get hi] at h1
  rw [insL_get (by omega)] at h2
  by_cases c1 : j < i
  · rw [if_pos c1] at h1 h2; exact hr.2 j s w h1 h2
  · rw [if_neg c1] at h1 h2
    by_cases c2 : j = i
    · rw [if_pos c2] at h1 h2
      injection h1 with h1; injection h2 with h2
      subst h1 h2; exact ha
    · rw [if_neg c2] at h1 h2; exact hr.2 _ s w h1 h2
theorem Reps.take (hr : Reps h F n ss vs) (i : Nat) : Reps h F n (ss.take i) (vs.take i) := by
  refine ⟨by simp [hr.1], fun j s w h1 h2 => ?_⟩
  rw [List.getElem?_take] at h1 h2
  split at h1
  · rename_i e; rw [if_pos e] at h2; exact hr.2 j s w h1 h2
  · cases h1
theorem Reps.drop (hr : Reps h F n ss vs) (i : Nat) : Reps h F n (ss.drop i) (vs.drop i) := by
  refine ⟨by simp [hr.1], fun j s w h1 h2 => ?_⟩
  rw [List.getElem?_drop] at h1 h2
  exact hr.2 _ s w h1 h2
theorem Reps.append {ss2 : List (T n)} {vs2 : List Value} (hr : Reps h F n ss vs) (hr2 : Reps h F n ss2 vs2) : Reps h F n (ss ++ ss2) (vs ++ vs2) := by
  have hl := hr.1
  refine ⟨by simp [hr.1, hr2.1], fun j s w h1 h2 => ?_⟩
  rw [List.getElem?_append] at h1 h2
  split at h1
  · rename_i e; rw [if_pos (by omega)] at h2; exact hr.2 j s w h1 h2
  · rename_i e; rw [if_neg (by omega), hl] at h2; exact hr2.2 _ s w h1 h2
end
theorem keys_ins (t : List KV) (m : Nat) (k w : Key) : keysV ((insL t m (k, w)).map (·.1)) = insL (keysV (t.map (·.1))) m (.string k) := by unfold insL keysV; simp
theorem vals_ins (t : List KV) (m : Nat) (k w : Key) : keysV ((insL t m (k, w)).map (·.2)) = insL (keysV (t.map (·.2))) m (.string w) := by unfold insL keysV; simp
theorem keys_insK (t : List Key) (m : Nat) (k : Key) : keysV (insL t m k) = insL (keysV t) m (.string k) := by unfold insL keysV; simp
theorem rep_leaf' {h0 h : Heap} {p : Nat} {r1 r2 : Sl} {t : List KV} (row : Row h p [.slice r1.a r1.len r1.cap, .slice r2.a r2.len r2.cap]) (o1 : Own h0 h 1 r1 (keysV (t.map (·.1)))) (o2 : Own h0 h 1 r2 (keysV (t.map (·.2)))) (hp : h0.size ≤ p) :
    Rep h (New h0 h) 0 t (.iface lfT (.pointer (some ⟨p, 0, none⟩))) := rep_leaf row o1 o2 hp (fun _ h => h)
theorem new_mono {h0 h1 h h' : Heap} (z1 : h0.size ≤ h1.size) (z2 : h.size ≤ h'.size) {b : Nat} (hb : New h1 h b) : New h0 h' b := ⟨by have := hb.1; omega, by have := hb.2; omega⟩

theorem put_leaf {h : Heap} {F : Nat → Prop} {v : Value} {k w : Key} {t : List KV} (hr : Rep h F 0 t v) (hA : Asc (t.map (·.1))) (hl : t.length ≤ 1000000) {R : Value × Value × ByteArray × Bool → Heap → Prop}
    (hk : ∀ a b m h', Nw h h' → Rep h' (New h h') 0 (putF k w 0 t).1.1 a → Opt h' (New h h') 0 (putF k w 0 t).1.2 m b → R (a, b, m, (putF k w 0 t).2) h') : CallT Try.prog btree_put_no [v, .string k, .string w] h [.sc .raw, .sc .raw, .sc .str, .sc .bool] R := by
  have hcall := btree_put_call v k w (R := R) (h := h)
  apply hcall
  clear hcall
  unfold btree_put
  obtain ⟨p, ka, kl, kc, va, vl, vc, rfl, fp, row, k1, k2, f1, f2⟩ := hr
  have len1 : kl = t.length := by have := k1.1; simpa using this
  have len2 : vl = t.length := by have := k2.1; simpa using this
  refine isP_yes rfl ?_
  refine ldL_row (o := 0) row rfl ?_
  refine bsearch_spec k1 hA (by omega) ?_
  refine ldL_row (o := 0) row rfl ?_
  refine ldL_row (o := 0 + 1) row rfl ?_
  refine cloneS_spec (s := ⟨ka, kl, kc⟩) k1 (keysV_one _) (by show kl ≤ _; omega) ?_
  intro rk hk oK lK nK
  replace lK : rk.len = kl := lK
  have row11 := nK.row row (fun h => h)
  refine ⟨ldL_row (o := 0 + 1) row11 rfl rfl, ?_⟩
  refine cloneS_spec (s := ⟨va, vl, vc⟩) (k2.keep0 nK) (keysV_one _) (by show vl ≤ _; omega) ?_
  intro rv hv oV lV nV
  replace lV : rv.len = vl := lV
  refine newB_row ?_
  intro h16 s16 rowI k16
  have nI : Nw h h16 := (nK.trans' nV).trans' k16
  have hm := below_le k (t.map (·.1))
  rw [List.length_map] at hm
  have hput : putF k w 0 t = if (t.map (·.1))[below k (t.map (·.1))]? = some k then ((t.set (below k (t.map (·.1))) (k, w), none), false) else (cutF (insL t (below k (t.map (·.1))) (k, w)), true) := by
    simp only [putF, leafF]
    by_cases c : (t.map (·.1))[below k (t.map (·.1))]? = some k
    · simp only [if_pos c]; rfl
    · simp only [if_neg c]; rfl
  rename_i hkR
  generalize below k (t.map (·.1)) = m at hm hput ⊢
  have B10 : ∀ b, blk rk.a b → h.size ≤ b ∧ b < hk.size := fun b hb => ⟨oK.fresh b hb, oK.lt hb⟩
  have B13 : ∀ b, blk rv.a b → hk.size ≤ b ∧ b < hv.size := fun b hb => ⟨oV.fresh b hb, oV.lt hb⟩
  have zK := nK.size
  have zV := nV.size
  replace oK := (oK.nw nV).nw k16
  replace oV := (oV.up nK.size).nw k16
  refine cnd_dec (fun c => ?_) (fun c => ?_)
  · rw [hput, if_pos c] at hkR
    have hml : m < t.length := by have := (List.getElem?_eq_some_iff.1 c).1; simpa using this
    refine ldL_row (o := 0 + 1) rowI rfl ?_
    have sl13 := oV.sl
    refine sl13.idx (by omega) (by omega) ?_
    intro x ex _
    have bx := B13 x.block (by rw [ex]; exact blk_some.2 rfl)
    have sl14 := sl13
    rw [ex] at sl14
    rw [Int.toNat_natCast, Nat.mul_one]
    refine sl14.set (i := m) (by omega) rfl ?_
    intro h19 z19 sl19 k19
    have n19 : Nw h h19 := Nw.st nI k19 (by omega)
    rw [← ex] at sl19
    refine hkR _ _ _ h19 n19 (rep_leaf' (k19.row rowI (fun e => by have e1 : hv.size = x.block := e; omega)) (r1 := rk) (r2 := rv) ?_ ⟨?_, fun b hb => by have := B13 b hb; omega⟩ (by omega)) rfl
    · have e : (t.set m (k, w)).map (·.1) = t.map (·.1) := by
        rw [List.map_set]
        apply List.ext_getElem?
        intro j
        rw [List.getElem?_set]
        by_cases e : m = j
        · subst e; rw [if_pos rfl, c]; simp [hml]
        · rw [if_neg e]
      rw [e]
      exact oK.keep k19 (fun b hb e => by have e1 : b = x.block := e; have := B10 b hb; omega)
    · have e : keysV ((t.set m (k, w)).map (·.2)) = (keysV (t.map (·.2))).set m (.string w) := by unfold keysV; rw [List.map_set, List.map_set]
      rw [e]; exact sl19
  · rw [hput, if_neg c] at hkR
    refine withJ.intro (fun _ h22 => ∃ r r' : Sl, Row h22 hv.size [.slice r.a r.len r.cap, .slice r'.a r'.len r'.cap] ∧ Own h h22 1 r (keysV ((insL t m (k, w)).map (·.1))) ∧ Own h h22 1 r' (keysV ((insL t m (k, w)).map (·.2))) ∧ r.len = t.length + 1 ∧ r'.len = t.length + 1 ∧ Nw h h22) ?_ ?_
    · rintro _ h22 ⟨r, r', row22, o1, o2, e1, e2, n22⟩
      have il : (insL t m (k, w)).length = t.length + 1 := insL_len hm
      generalize insL t m (k, w) = u at o1 o2 hkR il
      refine ldL_row (o := 0) row22 rfl ?_
      refine cnd_dec (fun c2 => ?_) (fun c2 => ?_)
      · have hc : cutF u = (u, none) := by unfold cutF; rw [if_pos (by omega)]; rfl
        rw [hc] at hkR
        refine hkR _ _ _ h22 n22 (rep_leaf' row22 o1 o2 (by omega)) rfl
      · have hc : cutF u = (u.take (u.length / 2), some ((u[u.length / 2]?.map (·.1)).getD ⟨#[]⟩, u.drop (u.length / 2))) := by unfold cutF; rw [if_neg (by omega)]; rfl
        rw [hc] at hkR
        refine ldL_row (o := 0) row22 rfl ?_
        refine withJ.inl ?_
        have hh : w64 ((r.len : Int).tdiv 2) = ((u.length / 2 : Nat) : Int) := by rw [half_is (by omega), e1, il]
        simp only [hh]
        generalize hH : u.length / 2 = H at hkR ⊢
        refine ldL_row (o := 0) row22 rfl ?_
        refine o1.rv.lo (by omega) o1.le ?_
        intro o29 c29 rvA
        refine ldL_row (o := 0 + 1) row22 rfl ?_
        refine o2.rv.lo (by omega) o2.le ?_
        intro o31 c31 rvB
        refine ldL_row (o := 0) row22 rfl ?_
        refine o1.rv.hi (by omega) o1.le ?_
        intro o33 c33 rvC
        refine ldL_row (o := 0 + 1) row22 rfl ?_
        refine o2.rv.hi (by omega) o2.le ?_
        intro o35 c35 rvD
        refine ldL_row (o := 0) row22 rfl ?_
        have hHl : H < u.length := by omega
        refine o1.rv.at (by omega) (by omega) (v := .string u[H].1) (by rw [Int.toNat_natCast, List.getElem?_map, List.getElem?_map, List.getElem?_eq_getElem hHl]; rfl) ?_
        intro a37 c37
        refine ldS_at c37 ?_
        rw [List.getElem?_eq_getElem hHl] at hkR
        have n0 : Nw h22 h22 := Keep.refl _ _
        have fin : ∀ {p q : Nat} {h' : Heap} {a b c d : Sl}, Nw h22 h' → h22.size ≤ p → Row h' p [.slice a.a a.len a.cap, .slice b.a b.len b.cap] → h22.size ≤ q → Row h' q [.slice c.a c.len c.cap, .slice d.a d.len d.cap] → Own h22 h' 1 a ((keysV (u.map (·.1))).take H) → Own h22 h' 1 b ((keysV (u.map (·.2))).take H) → Own h22 h' 1 c ((keysV (u.map (·.1))).drop H) → Own h22 h' 1 d ((keysV (u.map (·.2))).drop H) →
            R (.iface lfT (.pointer (some ⟨p, 0, none⟩)), .iface lfT (.pointer (some ⟨q, 0, none⟩)), u[H].1, true) h' := by
          intro p q h' a b c d nw zp rp zq rq oa ob oc od
          have z22 := n22.size
          refine hkR _ _ _ h' (n22.trans' nw) ((rep_leaf' rp (t := u.take H) ?_ ?_ zp).mono (fun b hb => new_mono z22 (Nat.le_refl _) hb)) ⟨rfl, (rep_leaf' rq (t := u.drop H) ?_ ?_ zq).mono (fun b hb => new_mono z22 (Nat.le_refl _) hb)⟩
          · unfold keysV at oa ⊢; rw [List.map_take, List.map_take]; exact oa
          · unfold keysV at ob ⊢; rw [List.map_take, List.map_take]; exact ob
          · unfold keysV at oc ⊢; rw [List.map_drop, List.map_drop]; exact oc
          · unfold keysV at od ⊢; rw [List.map_drop, List.map_drop]; exact od
        refine cloneS_spec (s := ⟨o29, _, c29⟩) (rvA.keep0 n0) (fun v hv => keysV_one _ v (List.mem_of_mem_take hv)) (by dsimp only; omega) ?_
        intro r39 h40 o40 l40 k40
        replace o40 := o40.up n0.size
        have n40 := n0.trans' k40
        refine ⟨by first | exact ldS_at (n40.cell c37 (fun h => h)) rfl | exact ldL_row (o := 0) (n40.row row22 (fun h => h)) rfl rfl | exact ldL_row (o := 0 + 1) (n40.row row22 (fun h => h)) rfl rfl, ?_⟩
        refine ⟨by first | exact ldS_at (n40.cell c37 (fun h => h)) rfl | exact ldL_row (o := 0) (n40.row row22 (fun h => h)) rfl rfl | exact ldL_row (o := 0 + 1) (n40.row row22 (fun h => h)) rfl rfl, ?_⟩
        refine ⟨by first | exact ldS_at (n40.cell c37 (fun h => h)) rfl | exact ldL_row (o := 0) (n40.row row22 (fun h => h)) rfl rfl | exact ldL_row (o := 0 + 1) (n40.row row22 (fun h => h)) rfl rfl, ?_⟩
        refine ⟨by first | exact ldS_at (n40.cell c37 (fun h => h)) rfl | exact ldL_row (o := 0) (n40.row row22 (fun h => h)) rfl rfl | exact ldL_row (o := 0 + 1) (n40.row row22 (fun h => h)) rfl rfl, ?_⟩
        refine ⟨by first | exact ldS_at (n40.cell c37 (fun h => h)) rfl | exact ldL_row (o := 0) (n40.row row22 (fun h => h)) rfl rfl | exact ldL_row (o := 0 + 1) (n40.row row22 (fun h => h)) rfl rfl, ?_⟩
        refine cloneS_spec (s := ⟨o31, _, c31⟩) (rvB.keep0 n40) (fun v hv => keysV_one _ v (List.mem_of_mem_take hv)) (by dsimp only; omega) ?_
        intro r46 h47 o47 l47 k47
        replace o47 := o47.up n40.size
        have n47 := n40.trans' k47
        refine ⟨by first | exact ldS_at (n47.cell c37 (fun h => h)) rfl | exact ldL_row (o := 0) (n47.row row22 (fun h => h)) rfl rfl | exact ldL_row (o := 0 + 1) (n47.row row22 (fun h => h)) rfl rfl, ?_⟩
        refine ⟨by first | exact ldS_at (n47.cell c37 (fun h => h)) rfl | exact ldL_row (o := 0) (n47.row row22 (fun h => h)) rfl rfl | exact ldL_row (o := 0 + 1) (n47.row row22 (fun h => h)) rfl rfl, ?_⟩
        refine ⟨by first | exact ldS_at (n47.cell c37 (fun h => h)) rfl | exact ldL_row (o := 0) (n47.row row22 (fun h => h)) rfl rfl | exact ldL_row (o := 0 + 1) (n47.row row22 (fun h => h)) rfl rfl, ?_⟩
        refine ⟨by first | exact ldS_at (n47.cell c37 (fun h => h)) rfl | exact ldL_row (o := 0) (n47.row row22 (fun h => h)) rfl rfl | exact ldL_row (o := 0 + 1) (n47.row row22 (fun h => h)) rfl rfl, ?_⟩
        refine ⟨?_, ?_⟩
        · refine newB_row ?_
          intro h53 s53 w53 k53
          have z53 := n47.size
          have n53 := n47.trans' k53
          refine ⟨by first | exact ldS_at (n53.cell c37 (fun h => h)) rfl | exact ldL_row (o := 0) (n53.row row22 (fun h => h)) rfl rfl | exact ldL_row (o := 0 + 1) (n53.row row22 (fun h => h)) rfl rfl, ?_⟩
          refine ⟨by first | exact ldS_at (n53.cell c37 (fun h => h)) rfl | exact ldL_row (o := 0) (n53.row row22 (fun h => h)) rfl rfl | exact ldL_row (o := 0 + 1) (n53.row row22 (fun h => h)) rfl rfl, ?_⟩
          refine ⟨by first | exact ldS_at (n53.cell c37 (fun h => h)) rfl | exact ldL_row (o := 0) (n53.row row22 (fun h => h)) rfl rfl | exact ldL_row (o := 0 + 1) (n53.row row22 (fun h => h)) rfl rfl, ?_⟩
          refine ⟨by first | exact ldS_at (n53.cell c37 (fun h => h)) rfl | exact ldL_row (o := 0) (n53.row row22 (fun h => h)) rfl rfl | exact ldL_row (o := 0 + 1) (n53.row row22 (fun h => h)) rfl rfl, ?_⟩
          refine cloneS_spec (s := ⟨o33, _, c33⟩) (rvC.keep0 n53) (fun v hv => keysV_one _ v (List.mem_of_mem_drop hv)) (by dsimp only; omega) ?_
          intro r58 h59 o59 l59 k59
          replace o59 := o59.up n53.size
          have n59 := n53.trans' k59
          refine ⟨by first | exact ldS_at (n59.cell c37 (fun h => h)) rfl | exact ldL_row (o := 0) (n59.row row22 (fun h => h)) rfl rfl | exact ldL_row (o := 0 + 1) (n59.row row22 (fun h => h)) rfl rfl, ?_⟩
          refine ⟨by first | exact ldS_at (n59.cell c37 (fun h => h)) rfl | exact ldL_row (o := 0) (n59.row row22 (fun h => h)) rfl rfl | exact ldL_row (o := 0 + 1) (n59.row row22 (fun h => h)) rfl rfl, ?_⟩
          refine ⟨by first | exact ldS_at (n59.cell c37 (fun h => h)) rfl | exact ldL_row (o := 0) (n59.row row22 (fun h => h)) rfl rfl | exact ldL_row (o := 0 + 1) (n59.row row22 (fun h => h)) rfl rfl, ?_⟩
          refine cloneS_spec (s := ⟨o35, _, c35⟩) (rvD.keep0 n59) (fun v hv => keysV_one _ v (List.mem_of_mem_drop hv)) (by dsimp only; omega) ?_
          intro r63 h64 o64 l64 k64
          replace o64 := o64.up n59.size
          have n64 := n59.trans' k64
          refine ⟨by first | exact ldS_at (n64.cell c37 (fun h => h)) rfl | exact ldL_row (o := 0) (n64.row row22 (fun h => h)) rfl rfl | exact ldL_row (o := 0 + 1) (n64.row row22 (fun h => h)) rfl rfl, ?_⟩
          refine ⟨by first | exact ldS_at (n64.cell c37 (fun h => h)) rfl | exact ldL_row (o := 0) (n64.row row22 (fun h => h)) rfl rfl | exact ldL_row (o := 0 + 1) (n64.row row22 (fun h => h)) rfl rfl, ?_⟩
          refine ⟨?_, ?_⟩
          · refine newB_row ?_
            intro h68 s68 w68 k68
            have z68 := n64.size
            have n68 := n64.trans' k68
            refine ⟨by first | exact ldS_at (n68.cell c37 (fun h => h)) rfl | exact ldL_row (o := 0) (n68.row row22 (fun h => h)) rfl rfl | exact ldL_row (o := 0 + 1) (n68.row row22 (fun h => h)) rfl rfl, ?_⟩
            refine ⟨by first | exact ldS_at (n68.cell c37 (fun h => h)) rfl | exact ldL_row (o := 0) (n68.row row22 (fun h => h)) rfl rfl | exact ldL_row (o := 0 + 1) (n68.row row22 (fun h => h)) rfl rfl, ?_⟩
            exact fin n68 z53 (k68.row (k64.row (k59.row w53 (fun h => h)) (fun h => h)) (fun h => h)) z68 w68 (((((o40.nw k47).nw k53).nw k59).nw k64).nw k68) ((((o47.nw k53).nw k59).nw k64).nw k68) ((o59.nw k64).nw k68) (o64.nw k68)
          · refine newB_row ?_
            intro h72 s72 w72 k72
            have z72 := n64.size
            have n72 := n64.trans' k72
            refine ⟨by first | exact ldS_at (n72.cell c37 (fun h => h)) rfl | exact ldL_row (o := 0) (n72.row row22 (fun h => h)) rfl rfl | exact ldL_row (o := 0 + 1) (n72.row row22 (fun h => h)) rfl rfl, ?_⟩
            refine ⟨by first | exact ldS_at (n72.cell c37 (fun h => h)) rfl | exact ldL_row (o := 0) (n72.row row22 (fun h => h)) rfl rfl | exact ldL_row (o := 0 + 1) (n72.row row22 (fun h => h)) rfl rfl, ?_⟩
            exact fin n72 z53 (k72.row (k64.row (k59.row w53 (fun h => h)) (fun h => h)) (fun h => h)) z72 w72 (((((o40.nw k47).nw k53).nw k59).nw k64).nw k72) ((((o47.nw k53).nw k59).nw k64).nw k72) ((o59.nw k64).nw k72) (o64.nw k72)
        · refine cloneS_spec (s := ⟨o33, _, c33⟩) (rvC.keep0 n47) (fun v hv => keysV_one _ v (List.mem_of_mem_drop hv)) (by dsimp only; omega) ?_
          intro r75 h76 o76 l76 k76
          replace o76 := o76.up n47.size
          have n76 := n47.trans' k76
          refine ⟨by first | exact ldS_at (n76.cell c37 (fun h => h)) rfl | exact ldL_row (o := 0) (n76.row row22 (fun h => h)) rfl rfl | exact ldL_row (o := 0 + 1) (n76.row row22 (fun h => h)) rfl rfl, ?_⟩
          refine ⟨by first | exact ldS_at (n76.cell c37 (fun h => h)) rfl | exact ldL_row (o := 0) (n76.row row22 (fun h => h)) rfl rfl | exact ldL_row (o := 0 + 1) (n76.row row22 (fun h => h)) rfl rfl, ?_⟩
          refine ⟨by first | exact ldS_at (n76.cell c37 (fun h => h)) rfl | exact ldL_row (o := 0) (n76.row row22 (fun h => h)) rfl rfl | exact ldL_row (o := 0 + 1) (n76.row row22 (fun h => h)) rfl rfl, ?_⟩
          refine ⟨?_, ?_⟩
          · refine newB_row ?_
            intro h81 s81 w81 k81
            have z81 := n76.size
            have n81 := n76.trans' k81
            refine ⟨by first | exact ldS_at (n81.cell c37 (fun h => h)) rfl | exact ldL_row (o := 0) (n81.row row22 (fun h => h)) rfl rfl | exact ldL_row (o := 0 + 1) (n81.row row22 (fun h => h)) rfl rfl, ?_⟩
            refine ⟨by first | exact ldS_at (n81.cell c37 (fun h => h)) rfl | exact ldL_row (o := 0) (n81.row row22 (fun h => h)) rfl rfl | exact ldL_row (o := 0 + 1) (n81.row row22 (fun h => h)) rfl rfl, ?_⟩
            refine ⟨by first | exact ldS_at (n81.cell c37 (fun h => h)) rfl | exact ldL_row (o := 0) (n81.row row22 (fun h => h)) rfl rfl | exact ldL_row (o := 0 + 1) (n81.row row22 (fun h => h)) rfl rfl, ?_⟩
            refine cloneS_spec (s := ⟨o35, _, c35⟩) (rvD.keep0 n81) (fun v hv => keysV_one _ v (List.mem_of_mem_drop hv)) (by dsimp only; omega) ?_
            intro r85 h86 o86 l86 k86
            replace o86 := o86.up n81.size
            have n86 := n81.trans' k86
            refine ⟨by first | exact ldS_at (n86.cell c37 (fun h => h)) rfl | exact ldL_row (o := 0) (n86.row row22 (fun h => h)) rfl rfl | exact ldL_row (o := 0 + 1) (n86.row row22 (fun h => h)) rfl rfl, ?_⟩
            refine ⟨by first | exact ldS_at (n86.cell c37 (fun h => h)) rfl | exact ldL_row (o := 0) (n86.row row22 (fun h => h)) rfl rfl | exact ldL_row (o := 0 + 1) (n86.row row22 (fun h => h)) rfl rfl, ?_⟩
            refine ⟨?_, ?_⟩
            · refine newB_row ?_
              intro h90 s90 w90 k90
              have z90 := n86.size
              have n90 := n86.trans' k90
              refine ⟨by first | exact ldS_at (n90.cell c37 (fun h => h)) rfl | exact ldL_row (o := 0) (n90.row row22 (fun h => h)) rfl rfl | exact ldL_row (o := 0 + 1) (n90.row row22 (fun h => h)) rfl rfl, ?_⟩
              refine ⟨by first | exact ldS_at (n90.cell c37 (fun h => h)) rfl | exact ldL_row (o := 0) (n90.row row22 (fun h => h)) rfl rfl | exact ldL_row (o := 0 + 1) (n90.row row22 (fun h => h)) rfl rfl, ?_⟩
              exact fin n90 z81 (k90.row (k86.row w81 (fun h => h)) (fun h => h)) z90 w90 (((((o40.nw k47).nw k76).nw k81).nw k86).nw k90) ((((o47.nw k76).nw k81).nw k86).nw k90) (((o76.nw k81).nw k86).nw k90) (o86.nw k90)
            · refine newB_row ?_
              intro h94 s94 w94 k94
              have z94 := n86.size
              have n94 := n86.trans' k94
              refine ⟨by first | exact ldS_at (n94.cell c37 (fun h => h)) rfl | exact ldL_row (o := 0) (n94.row row22 (fun h => h)) rfl rfl | exact ldL_row (o := 0 + 1) (n94.row row22 (fun h => h)) rfl rfl, ?_⟩
              refine ⟨by first | exact ldS_at (n94.cell c37 (fun h => h)) rfl | exact ldL_row (o := 0) (n94.row row22 (fun h => h)) rfl rfl | exact ldL_row (o := 0 + 1) (n94.row row22 (fun h => h)) rfl rfl, ?_⟩
              exact fin n94 z81 (k94.row (k86.row w81 (fun h => h)) (fun h => h)) z94 w94 (((((o40.nw k47).nw k76).nw k81).nw k86).nw k94) ((((o47.nw k76).nw k81).nw k86).nw k94) (((o76.nw k81).nw k86).nw k94) (o86.nw k94)
          · refine cloneS_spec (s := ⟨o35, _, c35⟩) (rvD.keep0 n76) (fun v hv => keysV_one _ v (List.mem_of_mem_drop hv)) (by dsimp only; omega) ?_
            intro r97 h98 o98 l98 k98
            replace o98 := o98.up n76.size
            have n98 := n76.trans' k98
            refine ⟨by first | exact ldS_at (n98.cell c37 (fun h => h)) rfl | exact ldL_row (o := 0) (n98.row row22 (fun h => h)) rfl rfl | exact ldL_row (o := 0 + 1) (n98.row row22 (fun h => h)) rfl rfl, ?_⟩
            refine ⟨by first | exact ldS_at (n98.cell c37 (fun h => h)) rfl | exact ldL_row (o := 0) (n98.row row22 (fun h => h)) rfl rfl | exact ldL_row (o := 0 + 1) (n98.row row22 (fun h => h)) rfl rfl, ?_⟩
            refine ⟨?_, ?_⟩
            · refine newB_row ?_
              intro h102 s102 w102 k102
              have z102 := n98.size
              have n102 := n98.trans' k102
              refine ⟨by first | exact ldS_at (n102.cell c37 (fun h => h)) rfl | exact ldL_row (o := 0) (n102.row row22 (fun h => h)) rfl rfl | exact ldL_row (o := 0 + 1) (n102.row row22 (fun h => h)) rfl rfl, ?_⟩
              refine ⟨by first | exact ldS_at (n102.cell c37 (fun h => h)) rfl | exact ldL_row (o := 0) (n102.row row22 (fun h => h)) rfl rfl | exact ldL_row (o := 0 + 1) (n102.row row22 (fun h => h)) rfl rfl, ?_⟩
              refine ⟨?_, ?_⟩
              · refine newB_row ?_
                intro h106 s106 w106 k106
                have z106 := n102.size
                have n106 := n102.trans' k106
                refine ⟨by first | exact ldS_at (n106.cell c37 (fun h => h)) rfl | exact ldL_row (o := 0) (n106.row row22 (fun h => h)) rfl rfl | exact ldL_row (o := 0 + 1) (n106.row row22 (fun h => h)) rfl rfl, ?_⟩
                refine ⟨by first | exact ldS_at (n106.cell c37 (fun h => h)) rfl | exact ldL_row (o := 0) (n106.row row22 (fun h => h)) rfl rfl | exact ldL_row (o := 0 + 1) (n106.row row22 (fun h => h)) rfl rfl, ?_⟩
                exact fin n106 z102 (k106.row w102 (fun h => h)) z106 w106 (((((o40.nw k47).nw k76).nw k98).nw k102).nw k106) ((((o47.nw k76).nw k98).nw k102).nw k106) (((o76.nw k98).nw k102).nw k106) ((o98.nw k102).nw k106)
              · refine newB_row ?_
                intro h110 s110 w110 k110
                have z110 := n102.size
                have n110 := n102.trans' k110
                refine ⟨by first | exact ldS_at (n110.cell c37 (fun h => h)) rfl | exact ldL_row (o := 0) (n110.row row22 (fun h => h)) rfl rfl | exact ldL_row (o := 0 + 1) (n110.row row22 (fun h => h)) rfl rfl, ?_⟩
                refine ⟨by first | exact ldS_at (n110.cell c37 (fun h => h)) rfl | exact ldL_row (o := 0) (n110.row row22 (fun h => h)) rfl rfl | exact ldL_row (o := 0 + 1) (n110.row row22 (fun h => h)) rfl rfl, ?_⟩
                exact fin n110 z102 (k110.row w102 (fun h => h)) z110 w110 (((((o40.nw k47).nw k76).nw k98).nw k102).nw k110) ((((o47.nw k76).nw k98).nw k102).nw k110) (((o76.nw k98).nw k102).nw k110) ((o98.nw k102).nw k110)
            · refine newB_row ?_
              intro h114 s114 w114 k114
              have z114 := n98.size
              have n114 := n98.trans' k114
              refine ⟨by first | exact ldS_at (n114.cell c37 (fun h => h)) rfl | exact ldL_row (o := 0) (n114.row row22 (fun h => h)) rfl rfl | exact ldL_row (o := 0 + 1) (n114.row row22 (fun h => h)) rfl rfl, ?_⟩
              refine ⟨by first | exact ldS_at (n114.cell c37 (fun h => h)) rfl | exact ldL_row (o := 0) (n114.row row22 (fun h => h)) rfl rfl | exact ldL_row (o := 0 + 1) (n114.row row22 (fun h => h)) rfl rfl, ?_⟩
              refine newB_row ?_
              intro h118 s118 w118 k118
              have z118 := n114.size
              have n118 := n114.trans' k118
              refine ⟨by first | exact ldS_at (n118.cell c37 (fun h => h)) rfl | exact ldL_row (o := 0) (n118.row row22 (fun h => h)) rfl rfl | exact ldL_row (o := 0 + 1) (n118.row row22 (fun h => h)) rfl rfl, ?_⟩
              refine ⟨by first | exact ldS_at (n118.cell c37 (fun h => h)) rfl | exact ldL_row (o := 0) (n118.row row22 (fun h => h)) rfl rfl | exact ldL_row (o := 0 + 1) (n118.row row22 (fun h => h)) rfl rfl, ?_⟩
              exact fin n118 z118 w118 z114 (k118.row w114 (fun h => h)) (((((o40.nw k47).nw k76).nw k98).nw k114).nw k118) ((((o47.nw k76).nw k98).nw k114).nw k118) (((o76.nw k98).nw k114).nw k118) ((o98.nw k114).nw k118)
    · intro J hJ
      refine ldL_row (o := 0) rowI rfl ?_
      refine ldL_row (o := 0 + 1) rowI rfl ?_
      refine ⟨?_, ?_⟩
      · refine newB_raw ?_
        intro h124 s124 c124 _ k124
        have R124 := (k124.row rowI (fun h => h))
        have K124 := (oK.nw k124)
        have V124 := (oV.nw k124)
        have N124 := (nI.trans' k124)
        have C124_a123 := c124
        refine ⟨by first | exact ldL_row (o := 0) R124 rfl rfl | exact ldL_row (o := 0 + 1) R124 rfl rfl, ?_⟩
        refine ⟨by first | exact ldL_row (o := 0) R124 rfl rfl | exact ldL_row (o := 0 + 1) R124 rfl rfl, ?_⟩
        refine ⟨?_, ?_⟩
        · refine insertS_spec K124 C124_a123 (fun b hb e => by have := B10 b hb; omega) rfl (keysV_one _) (by omega) (by omega) (S := fun _ => False) N124 ?_
          intro r127 h128 q128 l128 n128 k128 f128
          have y128 := k128.size
          have F128 : ∀ b, blk r127.a b → (h.size ≤ b ∧ b < hk.size) ∨ h124.size ≤ b := fun b hb => by
            rcases f128 b hb with e | e
            · exact .inl (B10 b e)
            · exact .inr e
          have R128 := (k128.row R124 (fun e => by have := B10 _ e; omega))
          have K128 := q128
          have V128 := (V124.keep k128 (fun b hb e => by have e1 := B10 b e; have e2 := B13 b hb; omega))
          have N128 := n128
          refine ⟨by first | exact ldL_row (o := 0) R128 rfl rfl | exact ldL_row (o := 0 + 1) R128 rfl rfl, ?_⟩
          refine newB_raw ?_
          intro h131 s131 c131 _ k131
          have R131 := (k131.row R128 (fun h => h))
          have K131 := (K128.nw k131)
          have V131 := (V128.nw k131)
          have N131 := (N128.trans' k131)
          have C131_a130 := c131
          refine ⟨by first | exact ldL_row (o := 0) R131 rfl rfl | exact ldL_row (o := 0 + 1) R131 rfl rfl, ?_⟩
          refine insertS_spec V131 C131_a130 (fun b hb e => by have := B13 b hb; omega) rfl (keysV_one _) (by omega) (by omega) (S := fun _ => False) N131 ?_
          intro r133 h134 q134 l134 n134 k134 f134
          have y134 := k134.size
          have F134 : ∀ b, blk r133.a b → (hk.size ≤ b ∧ b < hv.size) ∨ h131.size ≤ b := fun b hb => by
            rcases f134 b hb with e | e
            · exact .inl (B13 b e)
            · exact .inr e
          have R134 := (k134.row R131 (fun e => by have := B13 _ e; omega))
          have K134 := (K131.keep k134 (fun b hb e => by have e1 := B13 b e; have e2 := F128 b hb; omega))
          have V134 := q134
          have N134 := n134
          refine stC_row (b := hv.size) (o := 0) R134 (by simp) rfl ?_
          intro h135 s135 w135 k135
          have R135 := w135
          have K135 := (K134.keep k135 (fun b hb e => by have e1 : b = _ := e; have e2 := F128 b hb; omega))
          have V135 := (V134.keep k135 (fun b hb e => by have e1 : b = _ := e; have e2 := F134 b hb; omega))
          have N135 := (Nw.st N134 k135 (by omega))
          refine stC_row (b := hv.size) (o := 0 + 1) R135 (by simp) rfl ?_
          intro h136 s136 w136 k136
          have R136 := w136
          have K136 := (K135.keep k136 (fun b hb e => by have e1 : b = _ := e; have e2 := F128 b hb; omega))
          have V136 := (V135.keep k136 (fun b hb e => by have e1 : b = _ := e; have e2 := F134 b hb; omega))
          have N136 := (Nw.st N135 k136 (by omega))
          exact hJ () _ ⟨r127, r133, R136, (by rw [keys_ins]; exact K136), (by rw [vals_ins]; exact V136), by omega, by omega, N136⟩
        · refine newB_raw ?_
          intro h138 s138 c138 _ k138
          have R138 := (k138.row R124 (fun h => h))
          have K138 := (K124.nw k138)
          have V138 := (V124.nw k138)
          have N138 := (N124.trans' k138)
          have C138_a123 := (k138.raw C124_a123 (fun h => h))
          have C138_a137 := c138
          refine ⟨by first | exact ldL_row (o := 0) R138 rfl rfl | exact ldL_row (o := 0 + 1) R138 rfl rfl, ?_⟩
          refine ⟨by first | exact ldL_row (o := 0) R138 rfl rfl | exact ldL_row (o := 0 + 1) R138 rfl rfl, ?_⟩
          refine insertS_spec K138 C138_a123 (fun b hb e => by have := B10 b hb; omega) rfl (keysV_one _) (by omega) (by omega) (S := fun _ => False) N138 ?_
          intro r141 h142 q142 l142 n142 k142 f142
          have y142 := k142.size
          have F142 : ∀ b, blk r141.a b → (h.size ≤ b ∧ b < hk.size) ∨ h138.size ≤ b := fun b hb => by
            rcases f142 b hb with e | e
            · exact .inl (B10 b e)
            · exact .inr e
          have R142 := (k142.row R138 (fun e => by have := B10 _ e; omega))
          have K142 := q142
          have V142 := (V138.keep k142 (fun b hb e => by have e1 := B10 b e; have e2 := B13 b hb; omega))
          have N142 := n142
          have C142_a137 := (k142.raw C138_a137 (fun e => by have := B10 _ e; omega))
          refine ⟨by first | exact ldL_row (o := 0) R142 rfl rfl | exact ldL_row (o := 0 + 1) R142 rfl rfl, ?_⟩
          refine insertS_spec V142 C142_a137 (fun b hb e => by have := B13 b hb; omega) rfl (keysV_one _) (by omega) (by omega) (S := fun _ => False) N142 ?_
          intro r144 h145 q145 l145 n145 k145 f145
          have y145 := k145.size
          have F145 : ∀ b, blk r144.a b → (hk.size ≤ b ∧ b < hv.size) ∨ h142.size ≤ b := fun b hb => by
            rcases f145 b hb with e | e
            · exact .inl (B13 b e)
            · exact .inr e
          have R145 := (k145.row R142 (fun e => by have := B13 _ e; omega))
          have K145 := (K142.keep k145 (fun b hb e => by have e1 := B13 b e; have e2 := F142 b hb; omega))
          have V145 := q145
          have N145 := n145
          refine stC_row (b := hv.size) (o := 0) R145 (by simp) rfl ?_
          intro h146 s146 w146 k146
          have R146 := w146
          have K146 := (K145.keep k146 (fun b hb e => by have e1 : b = _ := e; have e2 := F142 b hb; omega))
          have V146 := (V145.keep k146 (fun b hb e => by have e1 : b = _ := e; have e2 := F145 b hb; omega))
          have N146 := (Nw.st N145 k146 (by omega))
          refine stC_row (b := hv.size) (o := 0 + 1) R146 (by simp) rfl ?_
          intro h147 s147 w147 k147
          have R147 := w147
          have K147 := (K146.keep k147 (fun b hb e => by have e1 : b = _ := e; have e2 := F142 b hb; omega))
          have V147 := (V146.keep k147 (fun b hb e => by have e1 : b = _ := e; have e2 := F145 b hb; omega))
          have N147 := (Nw.st N146 k147 (by omega))
          exact hJ () _ ⟨r141, r144, R147, (by rw [keys_ins]; exact K147), (by rw [vals_ins]; exact V147), by omega, by omega, N147⟩
      · refine newB_raw ?_
        intro h149 s149 c149 _ k149
        have R149 := (k149.row rowI (fun h => h))
        have K149 := (oK.nw k149)
        have V149 := (oV.nw k149)
        have N149 := (nI.trans' k149)
        have C149_a148 := c149
        refine ⟨by first | exact ldL_row (o := 0) R149 rfl rfl | exact ldL_row (o := 0 + 1) R149 rfl rfl, ?_⟩
        refine ⟨by first | exact ldL_row (o := 0) R149 rfl rfl | exact ldL_row (o := 0 + 1) R149 rfl rfl, ?_⟩
        refine newB_raw ?_
        intro h153 s153 c153 _ k153
        have R153 := (k153.row R149 (fun h => h))
        have K153 := (K149.nw k153)
        have V153 := (V149.nw k153)
        have N153 := (N149.trans' k153)
        have C153_a148 := (k153.raw C149_a148 (fun h => h))
        have C153_a152 := c153
        refine ⟨by first | exact ldL_row (o := 0) R153 rfl rfl | exact ldL_row (o := 0 + 1) R153 rfl rfl, ?_⟩
        refine ⟨by first | exact ldL_row (o := 0) R153 rfl rfl | exact ldL_row (o := 0 + 1) R153 rfl rfl, ?_⟩
        refine insertS_spec K153 C153_a152 (fun b hb e => by have := B10 b hb; omega) rfl (keysV_one _) (by omega) (by omega) (S := fun _ => False) N153 ?_
        intro r156 h157 q157 l157 n157 k157 f157
        have y157 := k157.size
        have F157 : ∀ b, blk r156.a b → (h.size ≤ b ∧ b < hk.size) ∨ h153.size ≤ b := fun b hb => by
          rcases f157 b hb with e | e
          · exact .inl (B10 b e)
          · exact .inr e
        have R157 := (k157.row R153 (fun e => by have := B10 _ e; omega))
        have K157 := q157
        have V157 := (V153.keep k157 (fun b hb e => by have e1 := B10 b e; have e2 := B13 b hb; omega))
        have N157 := n157
        have C157_a148 := (k157.raw C153_a148 (fun e => by have := B10 _ e; omega))
        refine ⟨by first | exact ldL_row (o := 0) R157 rfl rfl | exact ldL_row (o := 0 + 1) R157 rfl rfl, ?_⟩
        refine insertS_spec V157 C157_a148 (fun b hb e => by have := B13 b hb; omega) rfl (keysV_one _) (by omega) (by omega) (S := fun _ => False) N157 ?_
        intro r159 h160 q160 l160 n160 k160 f160
        have y160 := k160.size
        have F160 : ∀ b, blk r159.a b → (hk.size ≤ b ∧ b < hv.size) ∨ h157.size ≤ b := fun b hb => by
          rcases f160 b hb with e | e
          · exact .inl (B13 b e)
          · exact .inr e
        have R160 := (k160.row R157 (fun e => by have := B13 _ e; omega))
        have K160 := (K157.keep k160 (fun b hb e => by have e1 := B13 b e; have e2 := F157 b hb; omega))
        have V160 := q160
        have N160 := n160
        refine stC_row (b := hv.size) (o := 0) R160 (by simp) rfl ?_
        intro h161 s161 w161 k161
        have R161 := w161
        have K161 := (K160.keep k161 (fun b hb e => by have e1 : b = _ := e; have e2 := F157 b hb; omega))
        have V161 := (V160.keep k161 (fun b hb e => by have e1 : b = _ := e; have e2 := F160 b hb; omega))
        have N161 := (Nw.st N160 k161 (by omega))
        refine stC_row (b := hv.size) (o := 0 + 1) R161 (by simp) rfl ?_
        intro h162 s162 w162 k162
        have R162 := w162
        have K162 := (K161.keep k162 (fun b hb e => by have e1 : b = _ := e; have e2 := F157 b hb; omega))
        have V162 := (V161.keep k162 (fun b hb e => by have e1 : b = _ := e; have e2 := F160 b hb; omega))
        have N162 := (Nw.st N161 k162 (by omega))
        exact hJ () _ ⟨r156, r159, R162, (by rw [keys_ins]; exact K162), (by rw [vals_ins]; exact V162), by omega, by omega, N162⟩

/-- the blocks of F and those laid since -/
def Fn (F : Nat → Prop) (h h' : Heap) (b : Nat) : Prop := F b ∨ New h h' b
theorem fn_mono {F : Nat → Prop} {h0 h1 h h' : Heap} (z1 : h0.size ≤ h1.size) (z2 : h.size ≤ h'.size) {b : Nat} (hb : Fn F h1 h b) : Fn F h0 h' b := hb.imp id (fun hb => new_mono z1 z2 hb)
theorem rep_inner' {h0 h : Heap} {F : Nat → Prop} {n p : Nat} {r1 r2 : Sl} {ks : List Key} {ss : List (T n)} {vs : List Value} (row : Row h p [.slice r1.a r1.len r1.cap, .slice r2.a r2.len r2.cap]) (o1 : Own h0 h 1 r1 (keysV ks)) (o2 : Own h0 h 1 r2 vs) (hp : h0.size ≤ p)
    (hs : Reps h (Fn F h0 h) n ss vs) : Rep h (Fn F h0 h) (n + 1) (ks, ss) (.iface inT (.pointer (some ⟨p, 0, none⟩))) := rep_inner row o1 o2 hp (fun _ h => .inr h) hs.1 hs.2
theorem cutN_one {n : Nat} {ks : List Key} {ss : List (T n)} (h : ss.length ≤ 8) : cutN ks ss = ((ks, ss), none) := by unfold cutN; rw [if_pos h]; rfl
theorem cutN_two {n : Nat} {ks : List Key} {ss : List (T n)} (h : ¬ ss.length ≤ 8) : cutN ks ss = ((ks.take (ss.length / 2 - 1), ss.take (ss.length / 2)), some ((ks[ss.length / 2 - 1]?).getD ⟨#[]⟩, (ks.drop (ss.length / 2), ss.drop (ss.length / 2)))) := by unfold cutN; rw [if_neg h]; rfl

theorem isNil_t {X : Bool → Prop} (h : X true) : isNilI .nilIface X := h
set_option maxHeartbeats 4000000 in
theorem put_inner {n : Nat} {k w : Key}
    (IH : ∀ {h : Heap} {F : Nat → Prop} {v : Value} {s : T n}, Rep h F n s v → (∀ b, F b → b < h.size) → Srt n s → ∀ {R : Value × Value × ByteArray × Bool → Heap → Prop},
      (∀ a b m h', Nw h h' → Rep h' (Fn F h h') n (putF k w n s).1.1 a → Opt h' (Fn F h h') n (putF k w n s).1.2 m b → R (a, b, m, (putF k w n s).2) h') → CallT Try.prog btree_put_no [v, .string k, .string w] h [.sc .raw, .sc .raw, .sc .str, .sc .bool] R)
    {h : Heap} {F : Nat → Prop} {v : Value} {t : T (n + 1)} (hr : Rep h F (n + 1) t v) (hF : ∀ b, F b → b < h.size) (hA : Srt (n + 1) t) {R : Value × Value × ByteArray × Bool → Heap → Prop}
    (hkR : ∀ a b m h', Nw h h' → Rep h' (Fn F h h') (n + 1) (putF k w (n + 1) t).1.1 a → Opt h' (Fn F h h') (n + 1) (putF k w (n + 1) t).1.2 m b → R (a, b, m, (putF k w (n + 1) t).2) h') : CallT Try.prog btree_put_no [v, .string k, .string w] h [.sc .raw, .sc .raw, .sc .str, .sc .bool] R := by
  have hcall := btree_put_call v k w (R := R) (h := h)
  apply hcall
  clear hcall
  unfold btree_put
  obtain ⟨p, ka, kl, kc, sa, sl, sc, vs, rfl, fp, row, k1, k2, lc, f1, f2, lv, hsons⟩ := hr
  obtain ⟨a1, a2, a3, a4⟩ := hA
  have len1 : kl = t.1.length := by have := k1.1; simpa using this
  have len2 : sl = t.2.length := by have := k2.1; omega
  refine isP_no rfl ?_
  refine isP_yes rfl ?_
  refine at_spec (x := ⟨p, 0, none⟩) (by rw [row.cells]; rfl) k1 a1 (by omega) ?_
  intro h165 n165
  have hm := upto_le k t.1
  have hput : putF k w (n + 1) t = match t.2[upto k t.1]? with
    | none => ((t, none), false)
    | some s => match putF k w n s with
      | ((a, none), more) => (((t.1, t.2.set (upto k t.1) a), none), more)
      | ((a, some (m, b)), more) => (cutN (insL t.1 (upto k t.1) m) (insL (t.2.set (upto k t.1) a) (upto k t.1 + 1) b), more) := rfl
  generalize upto k t.1 = m at hm hput ⊢
  have hm2 : m < t.2.length := by omega
  have hm3 : m < vs.length := by omega
  rw [List.getElem?_eq_getElem hm2] at hput
  replace hput : putF k w (n + 1) t = match putF k w n t.2[m] with
      | ((a, none), more) => (((t.1, t.2.set m a), none), more)
      | ((a, some (m', b)), more) => (cutN (insL t.1 m m') (insL (t.2.set m a) (m + 1) b), more) := hput
  have row165 := n165.row row (fun h => h)
  refine ldL_row (o := 0 + 1) row165 rfl ?_
  refine Rv.at (k2.keep0 n165) (by omega) (by omega) (v := vs[m]) (by rw [Int.toNat_natCast, List.getElem?_eq_getElem hm3]) ?_
  intro a168 c168
  refine ⟨_, c168, ?_⟩
  have reps0 : Reps h F n t.2 vs := ⟨lv, hsons⟩
  have son : Rep h165 F n t.2[m] vs[m] := (hsons m _ _ (List.getElem?_eq_getElem hm2) (List.getElem?_eq_getElem hm3)).nw n165
  have z165 := n165.size
  refine IH son (fun b hb => by have := hF b hb; omega) (a4 _ (List.getElem_mem hm2)) ?_
  intro a b mm h171 n171 ra ob
  rcases hp : putF k w n t.2[m] with ⟨⟨A, O⟩, more⟩
  rw [hp] at ra ob hput
  have n1 : Nw h h171 := n165.trans' n171
  have z171 := n171.size
  have row1 := n1.row row (fun h => h)
  refine ldL_row (o := 0) row1 rfl ?_
  refine ldL_row (o := 0 + 1) row1 rfl ?_
  refine cloneS_spec (s := ⟨ka, kl, kc⟩) (k1.keep0 n1) (keysV_one _) (by show kl ≤ _; omega) ?_
  intro rk hk oK lK nK
  replace lK : rk.len = kl := lK
  refine ⟨ldL_row (o := 0 + 1) (nK.row row1 (fun h => h)) rfl rfl, ?_⟩
  refine cloneN_spec (s := ⟨sa, sl, sc⟩) ((k2.keep0 n1).keep0 nK) reps0.one (by show sl ≤ _; omega) ?_
  intro rv hv oV lV nV
  replace lV : rv.len = sl := lV
  refine newB_row ?_
  intro h182 s182 row182 k182
  have zK := nK.size
  have zV := nV.size
  have B10 : ∀ b, blk rk.a b → h171.size ≤ b ∧ b < hk.size := fun b hb => ⟨oK.fresh b hb, oK.lt hb⟩
  have B13 : ∀ b, blk rv.a b → hk.size ≤ b ∧ b < hv.size := fun b hb => ⟨oV.fresh b hb, oV.lt hb⟩
  replace oK := (oK.nw nV).nw k182
  replace oV := (oV.up nK.size).nw k182
  refine ldL_row (o := 0 + 1) row182 rfl ?_
  have sl13 := oV.sl
  refine sl13.idx (by omega) (by omega) ?_
  intro x ex _
  have bx := B13 x.block (by rw [ex]; exact blk_some.2 rfl)
  have sl14 := sl13
  rw [ex] at sl14
  rw [Int.toNat_natCast, Nat.mul_one]
  refine sl14.set (i := m) (by omega) ra.one.2 ?_
  intro h16 z16 sl16 k16
  rw [← ex] at sl16
  have n182 : Nw h171 h182 := (nK.trans' nV).trans' k182
  have nI : Nw h171 h16 := Nw.st n182 k16 (by omega)
  have rowI := k16.row row182 (fun e => by have e1 : hv.size = x.block := e; omega)
  replace oK := oK.keep k16 (fun b hb e => by have e1 : b = x.block := e; have := B10 b hb; omega)
  replace oV : Own h171 h16 1 rv (vs.set m a) := ⟨sl16, fun b hb => by have := B13 b hb; omega⟩
  have zI := nI.size
  have z1 := n1.size
  have reps : Reps h171 (Fn F h h171) n (t.2.set m A) (vs.set m a) := ((reps0.nw n1).mono (fun b hb => .inl hb)).set (ra.mono (fun b hb => fn_mono z165 (Nat.le_refl _) hb)) m
  have vone : ∀ v ∈ vs.set m a, v.oneCell' = true := reps.one
  cases O with
  | none =>
    have ob' : b = .nilIface := ob
    subst ob'
    refine isNil_t ?_
    refine cnd_t rfl ?_
    rw [hput] at hkR
    exact hkR _ _ _ h16 (n1.trans' nI) (rep_inner' rowI (oK.up z1) (oV.up z1) (by omega) ((reps.nw nI).mono (fun b hb => fn_mono (Nat.le_refl _) zI hb))) rfl
  | some q =>
    obtain ⟨m', B⟩ := q
    obtain ⟨em, rb⟩ : mm = m' ∧ Rep h171 (Fn F h165 h171) n B b := ob
    subst em
    have hput' : putF k w (n + 1) t = (cutN (insL t.1 m mm) (insL (t.2.set m A) (m + 1) B), more) := hput
    rw [hput'] at hkR
    have rb' : Rep h171 (Fn F h h171) n B b := rb.mono (fun b hb => fn_mono z165 (Nat.le_refl _) hb)
    have bone := rb'.one
    have isn : ∀ {X : Bool → Prop}, X false → isNilI b X := fun hX => by
      cases n with
      | zero => obtain ⟨p, ka, kl, kc, va, vl, vc, rfl, _⟩ := rb; exact hX
      | succ n => obtain ⟨p, ka, kl, kc, sa, sl, sc, vs, rfl, _⟩ := rb; exact hX
    refine isn ?_
    refine cnd_f rfl ?_
    have ill : (t.2.set m A).length = t.2.length := List.length_set
    have kil : (insL t.1 m mm).length = t.1.length + 1 := insL_len hm
    have sil : (insL (t.2.set m A) (m + 1) B).length = t.2.length + 1 := by rw [insL_len (by omega), ill]
    have vil : (vs.set m a).length = vs.length := List.length_set
    refine withJ.intro (fun _ h22 => ∃ r r' : Sl, Row h22 hv.size [.slice r.a r.len r.cap, .slice r'.a r'.len r'.cap] ∧ Own h171 h22 1 r (keysV (insL t.1 m mm)) ∧ Own h171 h22 1 r' (insL (vs.set m a) (m + 1) b) ∧ r.len = t.1.length + 1 ∧ r'.len = t.2.length + 1 ∧ Nw h171 h22) ?_ ?_
    · rintro _ h22 ⟨r, r', row22, o1, o2, e1, e2, n162⟩
      have z162 := n162.size
      have n22 : Nw h h22 := n1.trans' n162
      replace o1 := o1.up z1
      replace o2 := o2.up z1
      have repsI : Reps h22 (Fn F h h22) n (insL (t.2.set m A) (m + 1) B) (insL (vs.set m a) (m + 1) b) := ((reps.nw n162).mono (fun b hb => fn_mono (Nat.le_refl _) z162 hb)).ins ((rb'.nw n162).mono (fun b hb => fn_mono (Nat.le_refl _) z162 hb)) (by omega)
      generalize insL t.1 m mm = ks at o1 hkR kil
      generalize insL (t.2.set m A) (m + 1) B = ss at repsI hkR sil
      generalize insL (vs.set m a) (m + 1) b = us at repsI o2
      have vone : ∀ v ∈ us, v.oneCell' = true := repsI.one
      refine ldL_row (o := 0 + 1) row22 rfl ?_
      refine cnd_dec (fun c2 => ?_) (fun c2 => ?_)
      · rw [cutN_one (by omega)] at hkR
        exact hkR _ _ _ h22 n22 (rep_inner' row22 o1 o2 (by omega) repsI) rfl
      · rw [cutN_two (by omega)] at hkR
        refine ldL_row (o := 0 + 1) row22 rfl ?_
        refine withJ.inl ?_
        have hh : w64 ((r'.len : Int).tdiv 2) = ((ss.length / 2 : Nat) : Int) := by rw [half_is (by omega), e2, sil]
        have hh2 : w64 (((ss.length / 2 : Nat) : Int) - 1) = ((ss.length / 2 - 1 : Nat) : Int) := by rw [w64_id (by omega) (by omega)]; omega
        simp only [hh, hh2]
        have hH2 : 1 ≤ ss.length / 2 := by omega
        have hH3 : ss.length / 2 ≤ ks.length := by omega
        have hH4 : ss.length / 2 ≤ ss.length := by omega
        generalize ss.length / 2 = H at hkR hH2 hH3 hH4 ⊢
        refine ldL_row (o := 0) row22 rfl ?_
        refine o1.rv.lo (by omega) o1.le ?_
        intro o196 c196 rvA
        refine ldL_row (o := 0 + 1) row22 rfl ?_
        refine o2.rv.lo (by omega) o2.le ?_
        intro o198 c198 rvB
        refine ldL_row (o := 0) row22 rfl ?_
        refine o1.rv.hi (by omega) o1.le ?_
        intro o200 c200 rvC
        refine ldL_row (o := 0 + 1) row22 rfl ?_
        refine o2.rv.hi (by omega) o2.le ?_
        intro o202 c202 rvD
        refine ldL_row (o := 0) row22 rfl ?_
        have hHl : H - 1 < ks.length := by omega
        refine o1.rv.at (by omega) (by omega) (v := .string ks[H - 1]) (by rw [Int.toNat_natCast, List.getElem?_map, List.getElem?_eq_getElem hHl]; rfl) ?_
        intro a37 c37
        refine ldS_at c37 ?_
        rw [List.getElem?_eq_getElem hHl] at hkR
        have n0 : Nw h22 h22 := Keep.refl _ _
        have fin : ∀ {p q : Nat} {h' : Heap} {a b c d : Sl}, Nw h22 h' → h22.size ≤ p → Row h' p [.slice a.a a.len a.cap, .slice b.a b.len b.cap] → h22.size ≤ q → Row h' q [.slice c.a c.len c.cap, .slice d.a d.len d.cap] → Own h22 h' 1 a ((keysV ks).take (H - 1)) → Own h22 h' 1 b (us.take H) → Own h22 h' 1 c ((keysV ks).drop H) → Own h22 h' 1 d (us.drop H) →
            R (.iface inT (.pointer (some ⟨p, 0, none⟩)), .iface inT (.pointer (some ⟨q, 0, none⟩)), ks[H - 1], more) h' := by
          intro p q h' a b c d nw zp rp zq rq oa ob oc od
          have z22 := n22.size
          have zn := nw.size
          have rI : Reps h' (Fn F h h') n ss us := (repsI.nw nw).mono (fun b hb => fn_mono (Nat.le_refl _) zn hb)
          refine hkR _ _ _ h' (n22.trans' nw) (rep_inner' rp (ks := ks.take (H - 1)) (ss := ss.take H) ?_ (ob.up z22) (by omega) (rI.take H)) ⟨rfl, rep_inner' rq (ks := ks.drop H) (ss := ss.drop H) ?_ (od.up z22) (by omega) (rI.drop H)⟩
          · unfold keysV at oa ⊢; rw [List.map_take]; exact oa.up z22
          · unfold keysV at oc ⊢; rw [List.map_drop]; exact oc.up z22
        refine cloneS_spec (s := ⟨o196, _, c196⟩) (rvA.keep0 n0) (fun v hv => keysV_one _ v (List.mem_of_mem_take hv)) (by dsimp only; omega) ?_
        intro r206 h207 o207 l207 k207
        replace o207 := o207.up n0.size
        have n207 := n0.trans' k207
        refine ⟨by first | exact ldS_at (n207.cell c37 (fun h => h)) rfl | exact ldL_row (o := 0) (n207.row row22 (fun h => h)) rfl rfl | exact ldL_row (o := 0 + 1) (n207.row row22 (fun h => h)) rfl rfl, ?_⟩
        refine ⟨by first | exact ldS_at (n207.cell c37 (fun h => h)) rfl | exact ldL_row (o := 0) (n207.row row22 (fun h => h)) rfl rfl | exact ldL_row (o := 0 + 1) (n207.row row22 (fun h => h)) rfl rfl, ?_⟩
        refine ⟨by first | exact ldS_at (n207.cell c37 (fun h => h)) rfl | exact ldL_row (o := 0) (n207.row row22 (fun h => h)) rfl rfl | exact ldL_row (o := 0 + 1) (n207.row row22 (fun h => h)) rfl rfl, ?_⟩
        refine ⟨by first | exact ldS_at (n207.cell c37 (fun h => h)) rfl | exact ldL_row (o := 0) (n207.row row22 (fun h => h)) rfl rfl | exact ldL_row (o := 0 + 1) (n207.row row22 (fun h => h)) rfl rfl, ?_⟩
        refine ⟨by first | exact ldS_at (n207.cell c37 (fun h => h)) rfl | exact ldL_row (o := 0) (n207.row row22 (fun h => h)) rfl rfl | exact ldL_row (o := 0 + 1) (n207.row row22 (fun h => h)) rfl rfl, ?_⟩
        refine cloneN_spec (s := ⟨o198, _, c198⟩) (rvB.keep0 n207) (fun v hv => vone _ (List.mem_of_mem_take hv)) (by dsimp only; omega) ?_
        intro r213 h214 o214 l214 k214
        replace o214 := o214.up n207.size
        have n214 := n207.trans' k214
        refine ⟨by first | exact ldS_at (n214.cell c37 (fun h => h)) rfl | exact ldL_row (o := 0) (n214.row row22 (fun h => h)) rfl rfl | exact ldL_row (o := 0 + 1) (n214.row row22 (fun h => h)) rfl rfl, ?_⟩
        refine ⟨by first | exact ldS_at (n214.cell c37 (fun h => h)) rfl | exact ldL_row (o := 0) (n214.row row22 (fun h => h)) rfl rfl | exact ldL_row (o := 0 + 1) (n214.row row22 (fun h => h)) rfl rfl, ?_⟩
        refine ⟨by first | exact ldS_at (n214.cell c37 (fun h => h)) rfl | exact ldL_row (o := 0) (n214.row row22 (fun h => h)) rfl rfl | exact ldL_row (o := 0 + 1) (n214.row row22 (fun h => h)) rfl rfl, ?_⟩
        refine ⟨by first | exact ldS_at (n214.cell c37 (fun h => h)) rfl | exact ldL_row (o := 0) (n214.row row22 (fun h => h)) rfl rfl | exact ldL_row (o := 0 + 1) (n214.row row22 (fun h => h)) rfl rfl, ?_⟩
        refine ⟨?_, ?_⟩
        · refine newB_row ?_
          intro h220 s220 w220 k220
          have z220 := n214.size
          have n220 := n214.trans' k220
          refine ⟨by first | exact ldS_at (n220.cell c37 (fun h => h)) rfl | exact ldL_row (o := 0) (n220.row row22 (fun h => h)) rfl rfl | exact ldL_row (o := 0 + 1) (n220.row row22 (fun h => h)) rfl rfl, ?_⟩
          refine ⟨by first | exact ldS_at (n220.cell c37 (fun h => h)) rfl | exact ldL_row (o := 0) (n220.row row22 (fun h => h)) rfl rfl | exact ldL_row (o := 0 + 1) (n220.row row22 (fun h => h)) rfl rfl, ?_⟩
          refine ⟨by first | exact ldS_at (n220.cell c37 (fun h => h)) rfl | exact ldL_row (o := 0) (n220.row row22 (fun h => h)) rfl rfl | exact ldL_row (o := 0 + 1) (n220.row row22 (fun h => h)) rfl rfl, ?_⟩
          refine ⟨by first | exact ldS_at (n220.cell c37 (fun h => h)) rfl | exact ldL_row (o := 0) (n220.row row22 (fun h => h)) rfl rfl | exact ldL_row (o := 0 + 1) (n220.row row22 (fun h => h)) rfl rfl, ?_⟩
          refine cloneS_spec (s := ⟨o200, _, c200⟩) (rvC.keep0 n220) (fun v hv => keysV_one _ v (List.mem_of_mem_drop hv)) (by dsimp only; omega) ?_
          intro r225 h226 o226 l226 k226
          replace o226 := o226.up n220.size
          have n226 := n220.trans' k226
          refine ⟨by first | exact ldS_at (n226.cell c37 (fun h => h)) rfl | exact ldL_row (o := 0) (n226.row row22 (fun h => h)) rfl rfl | exact ldL_row (o := 0 + 1) (n226.row row22 (fun h => h)) rfl rfl, ?_⟩
          refine ⟨by first | exact ldS_at (n226.cell c37 (fun h => h)) rfl | exact ldL_row (o := 0) (n226.row row22 (fun h => h)) rfl rfl | exact ldL_row (o := 0 + 1) (n226.row row22 (fun h => h)) rfl rfl, ?_⟩
          refine ⟨by first | exact ldS_at (n226.cell c37 (fun h => h)) rfl | exact ldL_row (o := 0) (n226.row row22 (fun h => h)) rfl rfl | exact ldL_row (o := 0 + 1) (n226.row row22 (fun h => h)) rfl rfl, ?_⟩
          refine cloneN_spec (s := ⟨o202, _, c202⟩) (rvD.keep0 n226) (fun v hv => vone _ (List.mem_of_mem_drop hv)) (by dsimp only; omega) ?_
          intro r230 h231 o231 l231 k231
          replace o231 := o231.up n226.size
          have n231 := n226.trans' k231
          refine ⟨by first | exact ldS_at (n231.cell c37 (fun h => h)) rfl | exact ldL_row (o := 0) (n231.row row22 (fun h => h)) rfl rfl | exact ldL_row (o := 0 + 1) (n231.row row22 (fun h => h)) rfl rfl, ?_⟩
          refine ⟨by first | exact ldS_at (n231.cell c37 (fun h => h)) rfl | exact ldL_row (o := 0) (n231.row row22 (fun h => h)) rfl rfl | exact ldL_row (o := 0 + 1) (n231.row row22 (fun h => h)) rfl rfl, ?_⟩
          refine ⟨?_, ?_⟩
          · refine newB_row ?_
            intro h235 s235 w235 k235
            have z235 := n231.size
            have n235 := n231.trans' k235
            refine ⟨by first | exact ldS_at (n235.cell c37 (fun h => h)) rfl | exact ldL_row (o := 0) (n235.row row22 (fun h => h)) rfl rfl | exact ldL_row (o := 0 + 1) (n235.row row22 (fun h => h)) rfl rfl, ?_⟩
            refine ⟨by first | exact ldS_at (n235.cell c37 (fun h => h)) rfl | exact ldL_row (o := 0) (n235.row row22 (fun h => h)) rfl rfl | exact ldL_row (o := 0 + 1) (n235.row row22 (fun h => h)) rfl rfl, ?_⟩
            exact fin n235 z220 (k235.row (k231.row (k226.row w220 (fun h => h)) (fun h => h)) (fun h => h)) z235 w235 (((((o207.nw k214).nw k220).nw k226).nw k231).nw k235) ((((o214.nw k220).nw k226).nw k231).nw k235) ((o226.nw k231).nw k235) (o231.nw k235)
          · refine newB_row ?_
            intro h239 s239 w239 k239
            have z239 := n231.size
            have n239 := n231.trans' k239
            refine ⟨by first | exact ldS_at (n239.cell c37 (fun h => h)) rfl | exact ldL_row (o := 0) (n239.row row22 (fun h => h)) rfl rfl | exact ldL_row (o := 0 + 1) (n239.row row22 (fun h => h)) rfl rfl, ?_⟩
            refine ⟨by first | exact ldS_at (n239.cell c37 (fun h => h)) rfl | exact ldL_row (o := 0) (n239.row row22 (fun h => h)) rfl rfl | exact ldL_row (o := 0 + 1) (n239.row row22 (fun h => h)) rfl rfl, ?_⟩
            exact fin n239 z220 (k239.row (k231.row (k226.row w220 (fun h => h)) (fun h => h)) (fun h => h)) z239 w239 (((((o207.nw k214).nw k220).nw k226).nw k231).nw k239) ((((o214.nw k220).nw k226).nw k231).nw k239) ((o226.nw k231).nw k239) (o231.nw k239)
        · refine cloneS_spec (s := ⟨o200, _, c200⟩) (rvC.keep0 n214) (fun v hv => keysV_one _ v (List.mem_of_mem_drop hv)) (by dsimp only; omega) ?_
          intro r242 h243 o243 l243 k243
          replace o243 := o243.up n214.size
          have n243 := n214.trans' k243
          refine ⟨by first | exact ldS_at (n243.cell c37 (fun h => h)) rfl | exact ldL_row (o := 0) (n243.row row22 (fun h => h)) rfl rfl | exact ldL_row (o := 0 + 1) (n243.row row22 (fun h => h)) rfl rfl, ?_⟩
          refine ⟨by first | exact ldS_at (n243.cell c37 (fun h => h)) rfl | exact ldL_row (o := 0) (n243.row row22 (fun h => h)) rfl rfl | exact ldL_row (o := 0 + 1) (n243.row row22 (fun h => h)) rfl rfl, ?_⟩
          refine ⟨by first | exact ldS_at (n243.cell c37 (fun h => h)) rfl | exact ldL_row (o := 0) (n243.row row22 (fun h => h)) rfl rfl | exact ldL_row (o := 0 + 1) (n243.row row22 (fun h => h)) rfl rfl, ?_⟩
          refine ⟨?_, ?_⟩
          · refine newB_row ?_
            intro h248 s248 w248 k248
            have z248 := n243.size
            have n248 := n243.trans' k248
            refine ⟨by first | exact ldS_at (n248.cell c37 (fun h => h)) rfl | exact ldL_row (o := 0) (n248.row row22 (fun h => h)) rfl rfl | exact ldL_row (o := 0 + 1) (n248.row row22 (fun h => h)) rfl rfl, ?_⟩
            refine ⟨by first | exact ldS_at (n248.cell c37 (fun h => h)) rfl | exact ldL_row (o := 0) (n248.row row22 (fun h => h)) rfl rfl | exact ldL_row (o := 0 + 1) (n248.row row22 (fun h => h)) rfl rfl, ?_⟩
            refine ⟨by first | exact ldS_at (n248.cell c37 (fun h => h)) rfl | exact ldL_row (o := 0) (n248.row row22 (fun h => h)) rfl rfl | exact ldL_row (o := 0 + 1) (n248.row row22 (fun h => h)) rfl rfl, ?_⟩
            refine cloneN_spec (s := ⟨o202, _, c202⟩) (rvD.keep0 n248) (fun v hv => vone _ (List.mem_of_mem_drop hv)) (by dsimp only; omega) ?_
            intro r252 h253 o253 l253 k253
            replace o253 := o253.up n248.size
            have n253 := n248.trans' k253
            refine ⟨by first | exact ldS_at (n253.cell c37 (fun h => h)) rfl | exact ldL_row (o := 0) (n253.row row22 (fun h => h)) rfl rfl | exact ldL_row (o := 0 + 1) (n253.row row22 (fun h => h)) rfl rfl, ?_⟩
            refine ⟨by first | exact ldS_at (n253.cell c37 (fun h => h)) rfl | exact ldL_row (o := 0) (n253.row row22 (fun h => h)) rfl rfl | exact ldL_row (o := 0 + 1) (n253.row row22 (fun h => h)) rfl rfl, ?_⟩
            refine ⟨?_, ?_⟩
            · refine newB_row ?_
              intro h257 s257 w257 k257
              have z257 := n253.size
              have n257 := n253.trans' k257
              refine ⟨by first | exact ldS_at (n257.cell c37 (fun h => h)) rfl | exact ldL_row (o := 0) (n257.row row22 (fun h => h)) rfl rfl | exact ldL_row (o := 0 + 1) (n257.row row22 (fun h => h)) rfl rfl, ?_⟩
              refine ⟨by first | exact ldS_at (n257.cell c37 (fun h => h)) rfl | exact ldL_row (o := 0) (n257.row row22 (fun h => h)) rfl rfl | exact ldL_row (o := 0 + 1) (n257.row row22 (fun h => h)) rfl rfl, ?_⟩
              exact fin n257 z248 (k257.row (k253.row w248 (fun h => h)) (fun h => h)) z257 w257 (((((o207.nw k214).nw k243).nw k248).nw k253).nw k257) ((((o214.nw k243).nw k248).nw k253).nw k257) (((o243.nw k248).nw k253).nw k257) (o253.nw k257)
            · refine newB_row ?_
              intro h261 s261 w261 k261
              have z261 := n253.size
              have n261 := n253.trans' k261
              refine ⟨by first | exact ldS_at (n261.cell c37 (fun h => h)) rfl | exact ldL_row (o := 0) (n261.row row22 (fun h => h)) rfl rfl | exact ldL_row (o := 0 + 1) (n261.row row22 (fun h => h)) rfl rfl, ?_⟩
              refine ⟨by first | exact ldS_at (n261.cell c37 (fun h => h)) rfl | exact ldL_row (o := 0) (n261.row row22 (fun h => h)) rfl rfl | exact ldL_row (o := 0 + 1) (n261.row row22 (fun h => h)) rfl rfl, ?_⟩
              exact fin n261 z248 (k261.row (k253.row w248 (fun h => h)) (fun h => h)) z261 w261 (((((o207.nw k214).nw k243).nw k248).nw k253).nw k261) ((((o214.nw k243).nw k248).nw k253).nw k261) (((o243.nw k248).nw k253).nw k261) (o253.nw k261)
          · refine cloneN_spec (s := ⟨o202, _, c202⟩) (rvD.keep0 n243) (fun v hv => vone _ (List.mem_of_mem_drop hv)) (by dsimp only; omega) ?_
            intro r264 h265 o265 l265 k265
            replace o265 := o265.up n243.size
            have n265 := n243.trans' k265
            refine ⟨by first | exact ldS_at (n265.cell c37 (fun h => h)) rfl | exact ldL_row (o := 0) (n265.row row22 (fun h => h)) rfl rfl | exact ldL_row (o := 0 + 1) (n265.row row22 (fun h => h)) rfl rfl, ?_⟩
            refine ⟨by first | exact ldS_at (n265.cell c37 (fun h => h)) rfl | exact ldL_row (o := 0) (n265.row row22 (fun h => h)) rfl rfl | exact ldL_row (o := 0 + 1) (n265.row row22 (fun h => h)) rfl rfl, ?_⟩
            refine ⟨?_, ?_⟩
            · refine newB_row ?_
              intro h269 s269 w269 k269
              have z269 := n265.size
              have n269 := n265.trans' k269
              refine ⟨by first | exact ldS_at (n269.cell c37 (fun h => h)) rfl | exact ldL_row (o := 0) (n269.row row22 (fun h => h)) rfl rfl | exact ldL_row (o := 0 + 1) (n269.row row22 (fun h => h)) rfl rfl, ?_⟩
              refine ⟨by first | exact ldS_at (n269.cell c37 (fun h => h)) rfl | exact ldL_row (o := 0) (n269.row row22 (fun h => h)) rfl rfl | exact ldL_row (o := 0 + 1) (n269.row row22 (fun h => h)) rfl rfl, ?_⟩
              refine ⟨?_, ?_⟩
              · refine newB_row ?_
                intro h273 s273 w273 k273
                have z273 := n269.size
                have n273 := n269.trans' k273
                refine ⟨by first | exact ldS_at (n273.cell c37 (fun h => h)) rfl | exact ldL_row (o := 0) (n273.row row22 (fun h => h)) rfl rfl | exact ldL_row (o := 0 + 1) (n273.row row22 (fun h => h)) rfl rfl, ?_⟩
                refine ⟨by first | exact ldS_at (n273.cell c37 (fun h => h)) rfl | exact ldL_row (o := 0) (n273.row row22 (fun h => h)) rfl rfl | exact ldL_row (o := 0 + 1) (n273.row row22 (fun h => h)) rfl rfl, ?_⟩
                exact fin n273 z269 (k273.row w269 (fun h => h)) z273 w273 (((((o207.nw k214).nw k243).nw k265).nw k269).nw k273) ((((o214.nw k243).nw k265).nw k269).nw k273) (((o243.nw k265).nw k269).nw k273) ((o265.nw k269).nw k273)
              · refine newB_row ?_
                intro h277 s277 w277 k277
                have z277 := n269.size
                have n277 := n269.trans' k277
                refine ⟨by first | exact ldS_at (n277.cell c37 (fun h => h)) rfl | exact ldL_row (o := 0) (n277.row row22 (fun h => h)) rfl rfl | exact ldL_row (o := 0 + 1) (n277.row row22 (fun h => h)) rfl rfl, ?_⟩
                refine ⟨by first | exact ldS_at (n277.cell c37 (fun h => h)) rfl | exact ldL_row (o := 0) (n277.row row22 (fun h => h)) rfl rfl | exact ldL_row (o := 0 + 1) (n277.row row22 (fun h => h)) rfl rfl, ?_⟩
                exact fin n277 z269 (k277.row w269 (fun h => h)) z277 w277 (((((o207.nw k214).nw k243).nw k265).nw k269).nw k277) ((((o214.nw k243).nw k265).nw k269).nw k277) (((o243.nw k265).nw k269).nw k277) ((o265.nw k269).nw k277)
            · refine newB_row ?_
              intro h281 s281 w281 k281
              have z281 := n265.size
              have n281 := n265.trans' k281
              refine ⟨by first | exact ldS_at (n281.cell c37 (fun h => h)) rfl | exact ldL_row (o := 0) (n281.row row22 (fun h => h)) rfl rfl | exact ldL_row (o := 0 + 1) (n281.row row22 (fun h => h)) rfl rfl, ?_⟩
              refine ⟨by first | exact ldS_at (n281.cell c37 (fun h => h)) rfl | exact ldL_row (o := 0) (n281.row row22 (fun h => h)) rfl rfl | exact ldL_row (o := 0 + 1) (n281.row row22 (fun h => h)) rfl rfl, ?_⟩
              refine newB_row ?_
              intro h285 s285 w285 k285
              have z285 := n281.size
              have n285 := n281.trans' k285
              refine ⟨by first | exact ldS_at (n285.cell c37 (fun h => h)) rfl | exact ldL_row (o := 0) (n285.row row22 (fun h => h)) rfl rfl | exact ldL_row (o := 0 + 1) (n285.row row22 (fun h => h)) rfl rfl, ?_⟩
              refine ⟨by first | exact ldS_at (n285.cell c37 (fun h => h)) rfl | exact ldL_row (o := 0) (n285.row row22 (fun h => h)) rfl rfl | exact ldL_row (o := 0 + 1) (n285.row row22 (fun h => h)) rfl rfl, ?_⟩
              exact fin n285 z285 w285 z281 (k285.row w281 (fun h => h)) (((((o207.nw k214).nw k243).nw k265).nw k281).nw k285) ((((o214.nw k243).nw k265).nw k281).nw k285) (((o243.nw k265).nw k281).nw k285) ((o265.nw k281).nw k285)
    · intro J hJ
      refine ldL_row (o := 0) rowI rfl ?_
      refine ldL_row (o := 0 + 1) rowI rfl ?_
      have hi1 : w64 ((m : Int) + 1) = ((m + 1 : Nat) : Int) := by rw [w64_id (by omega) (by omega)]; push_cast; rfl
      simp only [hi1]
      refine ⟨?_, ?_⟩
      · refine newB_raw ?_
        intro h291 s291 c291 _ k291
        have R291 := (k291.row rowI (fun h => h))
        have K291 := (oK.nw k291)
        have V291 := (oV.nw k291)
        have N291 := (nI.trans' k291)
        have C291_a290 := c291
        refine ⟨by first | exact ldL_row (o := 0) R291 rfl rfl | exact ldL_row (o := 0 + 1) R291 rfl rfl, ?_⟩
        refine ⟨by first | exact ldL_row (o := 0) R291 rfl rfl | exact ldL_row (o := 0 + 1) R291 rfl rfl, ?_⟩
        refine ⟨?_, ?_⟩
        · refine insertS_spec K291 C291_a290 (fun b hb e => by have := B10 b hb; omega) rfl (keysV_one _) (by omega) (by omega) (S := fun _ => False) N291 ?_
          intro r294 h295 q295 l295 n295 k295 f295
          have y295 := k295.size
          have F295 : ∀ b, blk r294.a b → (h171.size ≤ b ∧ b < hk.size) ∨ h291.size ≤ b := fun b hb => by
            rcases f295 b hb with e | e
            · exact .inl (B10 b e)
            · exact .inr e
          have R295 := (k295.row R291 (fun e => by have := B10 _ e; omega))
          have K295 := q295
          have V295 := (V291.keep k295 (fun b hb e => by have e1 := B10 b e; have e2 := B13 b hb; omega))
          have N295 := n295
          refine ⟨by first | exact ldL_row (o := 0) R295 rfl rfl | exact ldL_row (o := 0 + 1) R295 rfl rfl, ?_⟩
          refine ⟨bone.1, ?_⟩
          refine newB_raw ?_
          intro h298 s298 c298 _ k298
          have R298 := (k298.row R295 (fun h => h))
          have K298 := (K295.nw k298)
          have V298 := (V295.nw k298)
          have N298 := (N295.trans' k298)
          have C298_a297 := c298
          refine ⟨by first | exact ldL_row (o := 0) R298 rfl rfl | exact ldL_row (o := 0 + 1) R298 rfl rfl, ?_⟩
          refine insertN_spec V298 C298_a297 (fun b hb e => by have := B13 b hb; omega) bone.2 vone (by omega) (by omega) (S := fun _ => False) N298 ?_
          intro r300 h301 q301 l301 n301 k301 f301
          have y301 := k301.size
          have F301 : ∀ b, blk r300.a b → (hk.size ≤ b ∧ b < hv.size) ∨ h298.size ≤ b := fun b hb => by
            rcases f301 b hb with e | e
            · exact .inl (B13 b e)
            · exact .inr e
          have R301 := (k301.row R298 (fun e => by have := B13 _ e; omega))
          have K301 := (K298.keep k301 (fun b hb e => by have e1 := B13 b e; have e2 := F295 b hb; omega))
          have V301 := q301
          have N301 := n301
          refine stC_row (b := hv.size) (o := 0) R301 (by simp) rfl ?_
          intro h302 s302 w302 k302
          have R302 := w302
          have K302 := (K301.keep k302 (fun b hb e => by have e1 : b = _ := e; have e2 := F295 b hb; omega))
          have V302 := (V301.keep k302 (fun b hb e => by have e1 : b = _ := e; have e2 := F301 b hb; omega))
          have N302 := (Nw.st N301 k302 (by omega))
          refine stC_row (b := hv.size) (o := 0 + 1) R302 (by simp) rfl ?_
          intro h303 s303 w303 k303
          have R303 := w303
          have K303 := (K302.keep k303 (fun b hb e => by have e1 : b = _ := e; have e2 := F295 b hb; omega))
          have V303 := (V302.keep k303 (fun b hb e => by have e1 : b = _ := e; have e2 := F301 b hb; omega))
          have N303 := (Nw.st N302 k303 (by omega))
          exact hJ () _ ⟨r294, r300, R303, (by rw [keys_insK]; exact K303), V303, by omega, by omega, N303⟩
        · refine ⟨bone.1, ?_⟩
          refine newB_raw ?_
          intro h305 s305 c305 _ k305
          have R305 := (k305.row R291 (fun h => h))
          have K305 := (K291.nw k305)
          have V305 := (V291.nw k305)
          have N305 := (N291.trans' k305)
          have C305_a290 := (k305.raw C291_a290 (fun h => h))
          have C305_a304 := c305
          refine ⟨by first | exact ldL_row (o := 0) R305 rfl rfl | exact ldL_row (o := 0 + 1) R305 rfl rfl, ?_⟩
          refine ⟨by first | exact ldL_row (o := 0) R305 rfl rfl | exact ldL_row (o := 0 + 1) R305 rfl rfl, ?_⟩
          refine insertS_spec K305 C305_a290 (fun b hb e => by have := B10 b hb; omega) rfl (keysV_one _) (by omega) (by omega) (S := fun _ => False) N305 ?_
          intro r308 h309 q309 l309 n309 k309 f309
          have y309 := k309.size
          have F309 : ∀ b, blk r308.a b → (h171.size ≤ b ∧ b < hk.size) ∨ h305.size ≤ b := fun b hb => by
            rcases f309 b hb with e | e
            · exact .inl (B10 b e)
            · exact .inr e
          have R309 := (k309.row R305 (fun e => by have := B10 _ e; omega))
          have K309 := q309
          have V309 := (V305.keep k309 (fun b hb e => by have e1 := B10 b e; have e2 := B13 b hb; omega))
          have N309 := n309
          have C309_a304 := (k309.raw C305_a304 (fun e => by have := B10 _ e; omega))
          refine ⟨by first | exact ldL_row (o := 0) R309 rfl rfl | exact ldL_row (o := 0 + 1) R309 rfl rfl, ?_⟩
          refine insertN_spec V309 C309_a304 (fun b hb e => by have := B13 b hb; omega) bone.2 vone (by omega) (by omega) (S := fun _ => False) N309 ?_
          intro r311 h312 q312 l312 n312 k312 f312
          have y312 := k312.size
          have F312 : ∀ b, blk r311.a b → (hk.size ≤ b ∧ b < hv.size) ∨ h309.size ≤ b := fun b hb => by
            rcases f312 b hb with e | e
            · exact .inl (B13 b e)
            · exact .inr e
          have R312 := (k312.row R309 (fun e => by have := B13 _ e; omega))
          have K312 := (K309.keep k312 (fun b hb e => by have e1 := B13 b e; have e2 := F309 b hb; omega))
          have V312 := q312
          have N312 := n312
          refine stC_row (b := hv.size) (o := 0) R312 (by simp) rfl ?_
          intro h313 s313 w313 k313
          have R313 := w313
          have K313 := (K312.keep k313 (fun b hb e => by have e1 : b = _ := e; have e2 := F309 b hb; omega))
          have V313 := (V312.keep k313 (fun b hb e => by have e1 : b = _ := e; have e2 := F312 b hb; omega))
          have N313 := (Nw.st N312 k313 (by omega))
          refine stC_row (b := hv.size) (o := 0 + 1) R313 (by simp) rfl ?_
          intro h314 s314 w314 k314
          have R314 := w314
          have K314 := (K313.keep k314 (fun b hb e => by have e1 : b = _ := e; have e2 := F309 b hb; omega))
          have V314 := (V313.keep k314 (fun b hb e => by have e1 : b = _ := e; have e2 := F312 b hb; omega))
          have N314 := (Nw.st N313 k314 (by omega))
          exact hJ () _ ⟨r308, r311, R314, (by rw [keys_insK]; exact K314), V314, by omega, by omega, N314⟩
      · refine ⟨bone.1, ?_⟩
        refine newB_raw ?_
        intro h316 s316 c316 _ k316
        have R316 := (k316.row rowI (fun h => h))
        have K316 := (oK.nw k316)
        have V316 := (oV.nw k316)
        have N316 := (nI.trans' k316)
        have C316_a315 := c316
        refine ⟨by first | exact ldL_row (o := 0) R316 rfl rfl | exact ldL_row (o := 0 + 1) R316 rfl rfl, ?_⟩
        refine ⟨by first | exact ldL_row (o := 0) R316 rfl rfl | exact ldL_row (o := 0 + 1) R316 rfl rfl, ?_⟩
        refine newB_raw ?_
        intro h320 s320 c320 _ k320
        have R320 := (k320.row R316 (fun h => h))
        have K320 := (K316.nw k320)
        have V320 := (V316.nw k320)
        have N320 := (N316.trans' k320)
        have C320_a315 := (k320.raw C316_a315 (fun h => h))
        have C320_a319 := c320
        refine ⟨by first | exact ldL_row (o := 0) R320 rfl rfl | exact ldL_row (o := 0 + 1) R320 rfl rfl, ?_⟩
        refine ⟨by first | exact ldL_row (o := 0) R320 rfl rfl | exact ldL_row (o := 0 + 1) R320 rfl rfl, ?_⟩
        refine insertS_spec K320 C320_a319 (fun b hb e => by have := B10 b hb; omega) rfl (keysV_one _) (by omega) (by omega) (S := fun _ => False) N320 ?_
        intro r323 h324 q324 l324 n324 k324 f324
        have y324 := k324.size
        have F324 : ∀ b, blk r323.a b → (h171.size ≤ b ∧ b < hk.size) ∨ h320.size ≤ b := fun b hb => by
          rcases f324 b hb with e | e
          · exact .inl (B10 b e)
          · exact .inr e
        have R324 := (k324.row R320 (fun e => by have := B10 _ e; omega))
        have K324 := q324
        have V324 := (V320.keep k324 (fun b hb e => by have e1 := B10 b e; have e2 := B13 b hb; omega))
        have N324 := n324
        have C324_a315 := (k324.raw C320_a315 (fun e => by have := B10 _ e; omega))
        refine ⟨by first | exact ldL_row (o := 0) R324 rfl rfl | exact ldL_row (o := 0 + 1) R324 rfl rfl, ?_⟩
        refine insertN_spec V324 C324_a315 (fun b hb e => by have := B13 b hb; omega) bone.2 vone (by omega) (by omega) (S := fun _ => False) N324 ?_
        intro r326 h327 q327 l327 n327 k327 f327
        have y327 := k327.size
        have F327 : ∀ b, blk r326.a b → (hk.size ≤ b ∧ b < hv.size) ∨ h324.size ≤ b := fun b hb => by
          rcases f327 b hb with e | e
          · exact .inl (B13 b e)
          · exact .inr e
        have R327 := (k327.row R324 (fun e => by have := B13 _ e; omega))
        have K327 := (K324.keep k327 (fun b hb e => by have e1 := B13 b e; have e2 := F324 b hb; omega))
        have V327 := q327
        have N327 := n327
        refine stC_row (b := hv.size) (o := 0) R327 (by simp) rfl ?_
        intro h328 s328 w328 k328
        have R328 := w328
        have K328 := (K327.keep k328 (fun b hb e => by have e1 : b = _ := e; have e2 := F324 b hb; omega))
        have V328 := (V327.keep k328 (fun b hb e => by have e1 : b = _ := e; have e2 := F327 b hb; omega))
        have N328 := (Nw.st N327 k328 (by omega))
        refine stC_row (b := hv.size) (o := 0 + 1) R328 (by simp) rfl ?_
        intro h329 s329 w329 k329
        have R329 := w329
        have K329 := (K328.keep k329 (fun b hb e => by have e1 : b = _ := e; have e2 := F324 b hb; omega))
        have V329 := (V328.keep k329 (fun b hb e => by have e1 : b = _ := e; have e2 := F327 b hb; omega))
        have N329 := (Nw.st N328 k329 (by omega))
        exact hJ () _ ⟨r323, r326, R329, (by rw [keys_insK]; exact K329), V329, by omega, by omega, N329⟩

theorem put_spec (k w : Key) : ∀ (n : Nat) {h : Heap} {F : Nat → Prop} {v : Value} {t : T n} (hr : Rep h F n t v) (hF : ∀ b, F b → b < h.size) (hA : Srt n t) {R : Value × Value × ByteArray × Bool → Heap → Prop}
    (hk : ∀ a b m h', Nw h h' → Rep h' (Fn F h h') n (putF k w n t).1.1 a → Opt h' (Fn F h h') n (putF k w n t).1.2 m b → R (a, b, m, (putF k w n t).2) h'), CallT Try.prog btree_put_no [v, .string k, .string w] h [.sc .raw, .sc .raw, .sc .str, .sc .bool] R
  | 0, h, F, v, t, hr, hF, hA, R, hk => put_leaf hr hA.1 hA.2 (fun a b m h' nw ra ob => hk a b m h' nw (ra.mono (fun _ h => .inr h)) (by
      cases hO : (putF k w 0 t).1.2 with
      | none => rw [hO] at ob; exact ob
      | some q => rw [hO] at ob; exact ⟨ob.1, ob.2.mono (fun _ h => .inr h)⟩))
  | n + 1, h, F, v, t, hr, hF, hA, R, hk => put_inner (put_spec k w n) hr hF hA hk
end Go.Proofs.Ytkgocfaajfaidaa
