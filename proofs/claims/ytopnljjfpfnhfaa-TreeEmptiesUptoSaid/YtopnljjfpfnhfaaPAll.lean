/- all: what a tree's iterator gives. -/
import Derived.Test.YtopnljjfpfnhfaaPRep
namespace Go.Proofs.Ytopnljjfpfnhfaa
open Go D
set_option linter.unusedVariables false
set_option linter.unusedSimpArgs false

/-- the pairs from k on, as the iterator goes for them -/
def frm (k : Key) : (n : Nat) → T n → List KV
  | 0, t => List.drop (below k (List.map (·.1) t)) t
  | n + 1, t => ((t.2.drop (upto k t.1)).map (frm k n)).flatten

theorem isP_no {t t' : TypeId} {p : Value} {Y : Option Addr → Prop} {N : Prop} (ht : Nat.beq t' t = false) (hN : N) : isP (.iface t' p) t Y N := by unfold isP; simp only [ht]; exact hN
theorem isP_yes {t t' : TypeId} {o : Option Addr} {Y : Option Addr → Prop} {N : Prop} (ht : Nat.beq t' t = true) (hY : Y o) : isP (.iface t' (.pointer o)) t Y N := by unfold isP; simp only [ht]; exact hY

theorem seq_leaf {h : Heap} {F : Nat → Prop} {v : Value} {b1 b3 : Nat} {k : Key} {t : List KV} (hr : Rep h F 0 t v) (hF : ∀ b, F b → b < h.size) (hA : Asc (t.map (·.1))) (hl : t.length ≤ 1000000) (r1 : Row h b1 [v]) (r3 : Row h b3 [.string k]) :
    SeqC Try.prog (.func (.func 34) #[] #[.pointer (some ⟨b1, 0, none⟩), .pointer (some ⟨b3, 0, none⟩)]) [.str, .str] h (fun b => F b ∨ b = b1 ∨ b = b3) (t.drop (below k (t.map (·.1)))) := by
  refine ⟨34, #[], #[.pointer (some ⟨b1, 0, none⟩), .pointer (some ⟨b3, 0, none⟩)], rfl, by kernel_rfl, by kernel_rfl, ?_⟩
  intro y J O h1 kp stab ndf j0 hO round
  have hcall := btree_all_1_call (.func (.yield y) #[] #[]) (some ⟨b1, 0, none⟩) (some ⟨b3, 0, none⟩) (R := fun _ h4 => ∃ g pre O', J g pre O' h4 ∧ (g = true → pre = t.drop (below k (t.map (·.1))))) (h := h1)
  apply hcall
  clear hcall
  unfold btree_all_1
  refine ⟨rfl, newB_row ?_⟩
  intro h2 s2 rY kY
  have hD : ∀ b, (F b ∨ b = b1 ∨ b = b3) → b < h.size := fun b hb => by
    rcases hb with hb | rfl | rfl
    · exact hF b hb
    · exact r1.lt
    · exact r3.lt
  have hz1 := kp.size
  have K2 : Keep (fun b => ¬ (F b ∨ b = b1 ∨ b = b3)) h h2 := kp.trans kY (fun _ _ h => h.elim)
  have j2 : J true [] O h2 := stab _ _ _ _ _ j0 (kY.mono (fun _ _ h => h.elim))
  have R1 : Row h2 b1 [v] := K2.row r1 (fun hh => hh (.inr (.inl rfl)))
  have R3 : Row h2 b3 [.string k] := K2.row r3 (fun hh => hh (.inr (.inr rfl)))
  have hr2 : Rep h2 F 0 t v := hr.keep K2 (fun b hb hh => hh (.inl hb))
  obtain ⟨p, ka, kl, kc, va, vl, vc, rfl, fp, row, k1, k2, f1, f2⟩ := hr2
  have ldv : ∀ {K : Value → Prop}, K (.iface lfT (.pointer (some ⟨p, 0, none⟩))) → ldV ⟨b1, 0, none⟩ h2 K := fun hK => ⟨_, by rw [R1.cells]; rfl, hK⟩
  refine ldv ?_
  refine isP_no rfl ?_
  refine cnd_t rfl ?_
  refine ldv ?_
  refine isP_yes rfl ?_
  refine ldL_row (o := 0) row rfl ?_
  refine ldS_row (o := 0) R3 rfl ?_
  have len1 : kl = t.length := by have := k1.1; simpa using this
  have len2 : vl = t.length := by have := k2.1; simpa using this
  refine bsearch_spec k1 hA (by omega) ?_
  have hm := below_le k (t.map (·.1))
  rw [List.length_map] at hm
  generalize hmm : below k (t.map (·.1)) = m at hm round ⊢
  refine LoopT.intro (fun (s : Int) h' => ∃ (i : Nat) (O' : Nat → Prop), s = (i : Int) ∧ m ≤ i ∧ i ≤ t.length ∧ J true ((t.drop m).take (i - m)) O' h' ∧ Keep (fun b => ¬ ((F b ∨ b = b1 ∨ b = b3) ∨ b = h1.size)) h2 h' ∧ ∀ b, O' b → ¬ ((F b ∨ b = b1 ∨ b = b3) ∨ b = h1.size) ∧ b < h'.size) (fun s _ => ((t.length : Int) - s).toNat)
    ⟨m, O, rfl, Nat.le_refl _, hm, by rw [Nat.sub_self, List.take_zero]; exact j2, Keep.refl _ _, fun b hb => ⟨fun hh => ?_, by have := (hO b hb).2; omega⟩⟩ ?_
  · rcases hh with hh | rfl
    · exact (hO b hb).1 hh
    · have := (hO _ hb).2; omega
  rintro s h' ⟨i, O', rfl, g1, g2, ji, kk, ho⟩
  have row' : Row h' p [.slice ka kl kc, .slice va vl vc] := kk.row row (fun hh => hh (.inl (.inl fp)))
  have rY' : Row h' h1.size [.func (.yield y) #[] #[]] := kk.row rY (fun hh => hh (.inr rfl))
  have k1' := k1.keep kk (fun _ b hb hh => hh (.inl (.inl (f1 b hb))))
  have k2' := k2.keep kk (fun _ b hb hh => hh (.inl (.inl (f2 b hb))))
  refine ldL_row (o := 0) row' rfl ?_
  have fin : ∀ (g : Bool) pre (O'' : Nat → Prop) (h5 : Heap), J g pre O'' h5 → (g = true → pre = t.drop m) → shutX h1.size h5 fun h6 => ∃ g pre O', J g pre O' h6 ∧ (g = true → pre = t.drop m) := by
    intro g pre O'' h5 hj hg h6 hz hs
    exact ⟨g, pre, O'', stab _ _ _ _ _ hj (shut_keep hz hs (ndf _ _ _ _ hj)), hg⟩
  refine cnd_dec (fun c1 => ?_) (fun c1 => ?_)
  · have hi : i < t.length := by have : (i : Int) < (kl : Int) := c1; omega
    refine ⟨_, by rw [rY'.cells]; rfl, ?_⟩
    refine ldL_row (o := 0) row' rfl ?_
    refine Rv.at k1' (by omega) (by omega) (v := .string (t[i]).1) (by rw [Int.toNat_natCast, List.getElem?_map, List.getElem?_map, List.getElem?_eq_getElem hi]; rfl) ?_
    intro z1 hz1'
    refine ⟨_, hz1', ?_⟩
    refine ldL_row (o := 0 + 1) row' rfl ?_
    refine Rv.at k2' (by omega) (by omega) (v := .string (t[i]).2) (by rw [Int.toNat_natCast, List.getElem?_map, List.getElem?_map, List.getElem?_eq_getElem hi]; rfl) ?_
    intro z2 hz2
    refine ⟨_, hz2, ?_⟩
    have hpre : (t.drop m).take (i - m) ++ [t[i]] = (t.drop m).take (i + 1 - m) := by
      rw [show i + 1 - m = (i - m) + 1 by omega, List.take_succ_eq_append_getElem (by rw [List.length_drop]; omega), List.getElem_drop]
      congr 2
      congr 1; omega
    refine .inr ⟨y, rfl, YldT.mono (round _ (t[i]) O' h' ji ?_) ?_⟩
    · rw [hpre]; exact List.take_prefix _ _
    · rintro b h3 ⟨O2, j3, k3, gr⟩
      rw [hpre] at j3
      cases b with
      | false =>
        refine cnd_t rfl ?_
        exact fin _ _ _ _ j3 (fun e => by cases e)
      | true =>
        refine cnd_f rfl ?_
        have z2' := kk.size
        have e1 : w64 ((i : Int) + 1) = ((i + 1 : Nat) : Int) := by rw [w64_id (by omega) (by omega)]; push_cast; rfl
        refine ⟨⟨i + 1, O2, e1, by omega, by omega, j3, kk.trans k3 (fun b _ hb => (ho b hb).1), fun b hb => ⟨fun hh => ?_, (gr b hb).2⟩⟩, ?_⟩
        · rcases (gr b hb).1 with h4 | h4
          · exact (ho b h4).1 hh
          · rcases hh with hh | rfl
            · have := hD b hh; omega
            · omega
        · rw [e1]; omega
  · have hi : i = t.length := by have : ¬ (i : Int) < (kl : Int) := c1; omega
    subst hi
    refine fin _ _ _ _ ji (fun _ => ?_)
    rw [List.take_of_length_le (by rw [List.length_drop]; omega)]
end Go.Proofs.Ytopnljjfpfnhfaa
