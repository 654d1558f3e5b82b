/- Strings: prefixes, a byte's place, and the builder of strings. -/
import Derived.Test.YtjpmjhnjdnbopaaPU32
import Derived.Test.YtjpmjhnjdnbopaaGStr
import Derived.Test.YtjpmjhnjdnbopaaPTy
namespace Go.Proofs.Ytjpmjhnjdnbopaa
open Go D
set_option linter.unusedVariables false
set_option linter.unusedSimpArgs false

/-- a string's bytes -/
def bl (s : ByteArray) : List UInt8 := s.data.toList
theorem bl_len (s : ByteArray) : (bl s).length = s.size := rfl
theorem bl_ofL (l : List UInt8) : bl (ofL l) = l := by simp [bl, ofL]
theorem ofL_bl (s : ByteArray) : ofL (bl s) = s := by cases s with | mk x => simp [ofL, bl]
theorem bl_inj {s t : ByteArray} (h : bl s = bl t) : s = t := by rw [← ofL_bl s, h, ofL_bl]
theorem bl_app (s t : ByteArray) : bl (s ++ t) = bl s ++ bl t := by
  simp [bl]
theorem ofL_size (l : List UInt8) : (ofL l).size = l.length := by simp [ofL, ByteArray.size]
theorem bl_ext (s : ByteArray) (i j : Nat) : bl (s.extract i j) = ((bl s).drop i).take (j - i) := by
  unfold bl
  rw [ByteArray.data_extract, Array.toList_extract, List.extract_eq_take_drop]
theorem seq_bl (s t : ByteArray) : seq s t = decide (bl s = bl t) := by
  by_cases h : s = t
  · subst h; rw [seq_self]; simp
  · rw [seq_false h]; symm; exact decide_eq_false (fun e => h (bl_inj e))
theorem ssl_bl {s : ByteArray} {lo hi : Int} {K : ByteArray → Prop} (h0 : 0 ≤ lo) (h1 : lo ≤ hi) (h2 : hi ≤ s.size) (hk : K (ofL (((bl s).drop lo.toNat).take (hi.toNat - lo.toNat)))) : ssl s lo hi K := by
  refine ⟨h0, h1, h2, ?_⟩
  rw [← bl_ext, ofL_bl] at hk
  exact hk
theorem bytesV_bl (s : ByteArray) : bytesV s = (bl s).map byteV := rfl

/-! ### the type of a row -/
def Ty (h : Heap) (b : Nat) (e : TypeId) : Prop := ∃ cs f, h[b]? = some (.cells cs e f)
theorem Ty.keep {S : Nat → Prop} {h h' : Heap} {b : Nat} {e : TypeId} (ht : Ty h b e) (hk : Keep S h h') (hn : ¬ S b) : Ty h' b e := by
  obtain ⟨cs, f, h1⟩ := ht
  exact ⟨cs, f, by rw [hk.same b (Array.getElem?_eq_some_iff.1 h1).1 hn]; exact h1⟩
theorem Ty.lt {h : Heap} {b : Nat} {e : TypeId} (ht : Ty h b e) : b < h.size := by
  obtain ⟨cs, f, h1⟩ := ht
  exact (Array.getElem?_eq_some_iff.1 h1).1
theorem Ty.setH {h : Heap} {b : Nat} {e : TypeId} (ht : Ty h b e) (a : Addr) (v : Value) : Ty (setH h a v) b e := by
  obtain ⟨cs, f, h1⟩ := ht
  by_cases hb : a.block = b
  · subst hb
    exact ⟨if a.spot.isSome then cs else cs.setIfInBounds a.off v, f, by rw [setH_get, if_pos rfl, h1]; rfl⟩
  · exact ⟨cs, f, by rw [setH_get, if_neg hb]; exact h1⟩
theorem Ty.setRow {b : Nat} {e : TypeId} {a : Addr} : ∀ {vs : List Value} {h : Heap} {i : Nat}, Ty h b e → Ty (setRow h a vs i) b e
  | [], h, i, ht => ht
  | v :: r, h, i, ht => Ty.setRow (vs := r) (ht.setH _ _)
theorem Ty.push {h : Heap} {b : Nat} {e : TypeId} (ht : Ty h b e) (o : Obj) : Ty (h.push o) b e := ht.keep (keep_push h o) (fun h => h)
theorem Ty.new (h : Heap) (cs : Array Value) (e : TypeId) : Ty (h.push (.cells cs e)) h.size e := ⟨cs, (0, 0), by simp⟩
/-- the types of rows stay -/
def Tys (h h' : Heap) : Prop := ∀ b e, Ty h b e → Ty h' b e
theorem stC_ty {a : Addr} {v : Value} {h : Heap} {K : Heap → Prop} (hx : stC a v h fun h' => Tys h h' → K h') : stC a v h K :=
  ⟨hx.1, hx.2.1, hx.2.2.1, hx.2.2.2 (fun b e ht => ht.setH _ _)⟩
theorem stRow_ty {cs : List Value} {a : Addr} {h : Heap} {K : Heap → Prop} (hx : stRow cs a h fun h' => Tys h h' → K h') : stRow cs a h K :=
  ⟨hx.1, hx.2.1, hx.2.2 (fun b e ht => ht.setRow)⟩
theorem wrRow_ty {cs : List Value} {a : Option Addr} {h : Heap} {K : Heap → Prop} (hx : wrRow cs a h fun h' => Tys h h' → K h') : wrRow cs a h K := by
  cases a with
  | none => exact hx (fun b e ht => ht)
  | some x => exact stRow_ty hx
theorem app_ty {zs new : List Value} {e : TypeId} {size bytes l c m : Nat} {o : Option Addr} {h : Heap} {K : Option Addr → Nat → Heap → Prop}
    (hx : app zs e size bytes o l c new m h fun a' c' h' => (Tys h h' ∧ (a' = o ∧ c' = c ∨ a' = some ⟨h.size, 0, none⟩ ∧ Ty h' h.size e ∧ c' ≠ 0)) → K a' c' h') : app zs e size bytes o l c new m h K := by
  unfold D.app at hx ⊢
  by_cases hle : l + m ≤ c
  · rw [if_pos hle] at hx ⊢
    cases o with
    | none => exact hx ⟨fun b e ht => ht, .inl ⟨rfl, rfl⟩⟩
    | some a => exact ⟨hx.1, hx.2.1, hx.2.2 ⟨fun b e ht => ht.setRow, .inl ⟨rfl, rfl⟩⟩⟩
  · rw [if_neg hle] at hx ⊢
    refine ⟨hx.1, ?_⟩
    have h2 := hx.2
    cases o with
    | none => exact fun c' h1 h3 => h2 c' h1 h3 ⟨fun b e ht => ht.push _, .inr ⟨rfl, Ty.new _ _ _, by omega⟩⟩
    | some a =>
      obtain ⟨cs, q1, q2, q3⟩ := h2
      exact ⟨cs, q1, q2, fun c' h1 h3 => q3 c' h1 h3 ⟨fun b e ht => ht.push _, .inr ⟨rfl, Ty.new _ _ _, by omega⟩⟩⟩
theorem newB_ty {cs : List Value} {t : TypeId} {h : Heap} {K : Addr → Heap → Prop} (hx : newB cs t h fun a h' => (Tys h h' ∧ Ty h' h.size t) → K a h') : newB cs t h K :=
  hx ⟨fun b e ht => ht.push _, Ty.new _ _ _⟩

/-! ### the builder -/
/-- a builder of type t at block p, its bytes behind block lo -/
structure Bd (t u : TypeId) (h : Heap) (p lo : Nat) (bs : List UInt8) : Prop where
  ex : ∃ q a l c, Row h p [.pointer q, .slice a l c] ∧ Bl h a l c bs ∧ (q = none ∨ q = some ⟨p, 0, none⟩) ∧ (∀ x, a = some x → c ≠ 0 ∧ ∃ b, x = ⟨b, 0, none⟩ ∧ lo ≤ b ∧ Ty h b u)
  ty : Ty h p t
  lt : p < lo

theorem Bd.keep {t u : TypeId} {S : Nat → Prop} {h h' : Heap} {p lo : Nat} {bs : List UInt8} (hs : Bd t u h p lo bs) (hk : Keep S h h') (h0 : ¬ S p) (h1 : ∀ b, lo ≤ b → b < h.size → ¬ S b) : Bd t u h' p lo bs := by
  obtain ⟨⟨q, a, l, c, r, b, hq, ha⟩, ty, lt⟩ := hs
  have nb : ∀ y, blk a y → ¬ S y := fun y hy => by
    obtain ⟨x, e1, e2⟩ := hy
    obtain ⟨e0, b', e3, e4, e5⟩ := ha x e1
    subst e3
    simp only at e2
    subst e2
    exact h1 _ e4 e5.lt
  refine ⟨⟨q, a, l, c, hk.row r h0, SlR.keep b hk nb, hq, fun x hx => ?_⟩, ty.keep hk h0, lt⟩
  obtain ⟨e0, b', e3, e4, e5⟩ := ha x hx
  subst e3
  exact ⟨e0, b', rfl, e4, e5.keep hk (h1 _ e4 e5.lt)⟩

/-- what a builder's writes leave alone -/
def bdS (p lo : Nat) (y : Nat) : Prop := y = p ∨ lo ≤ y

section
variable {h : Heap} {p lo : Nat} {bs : List UInt8}

theorem check_spec (hs : Bd bdT 5 h p lo bs) {R : Unit → Heap → Prop} (hk : ∀ h', Bd bdT 5 h' p lo bs → Keep (bdS p lo) h h' → h'.size = h.size → R () h') : CallT Try.prog strings_Builder_copyCheck_no [.pointer (some ⟨p, 0, none⟩)] h [] R := by
  apply strings_Builder_copyCheck_call
  simp only [strings_Builder_copyCheck, nn_eq]
  have hs' := hs
  obtain ⟨⟨q, a, l, c, r, b, hq, ha⟩, ty, lt⟩ := hs
  refine ldP_row (o := 0) r rfl ?_
  rcases hq with rfl | rfl
  · refine cnd_t rfl ?_
    obtain ⟨t, lo', hi', w1, w2⟩ := r
    have ety : t = bdT := by
      obtain ⟨cs, f, e⟩ := ty
      rw [w1] at e
      injection e with e
      injection e
    subst ety
    refine ⟨⟨_, _, _, w1, by simp⟩, ⟨_, _, _, w1, by kernel_rfl⟩, ?_⟩
    refine stC_ty (stC_row ⟨bdT, lo', hi', w1, w2⟩ (by simp) rfl ?_)
    intro h2 s2 r2 k2 t2
    have nb : ∀ y, blk a y → ¬ y = p := fun y hy => by
      obtain ⟨x, e1, e2⟩ := hy
      obtain ⟨e0, b', e3, e4, e5⟩ := ha x e1
      subst e3
      simp only at e2
      omega
    refine hk h2 ⟨⟨_, a, l, c, r2, SlR.keep b k2 nb, .inr rfl, fun x hx => ?_⟩, t2 _ _ ty, lt⟩ (k2.mono (fun y _ hy => .inl hy)) s2
    obtain ⟨e0, b', e3, e4, e5⟩ := ha x hx
    exact ⟨e0, b', e3, e4, t2 _ _ e5⟩
  · refine cnd_f rfl ?_
    exact ldP_row (o := 0) r rfl ⟨rfl, hk h hs' (.refl _ _) rfl⟩

/-- bytes laid into the buffer of a builder -/
theorem lay_spec (hs : Bd bdT 5 h p lo bs) {new : List UInt8} {vs : List Value} {n : Nat} (hv : vs = new.map byteV) (hn : n = new.length) (hlo : lo ≤ h.size) (hl : bs.length + n ≤ 140737488354000) {K : Heap → Prop}
    (hk : ∀ h', Bd bdT 5 h' p lo (bs ++ new) → Keep (bdS p lo) h h' → K h') :
    ldL ⟨p, 0 + 1, none⟩ h fun o4 l4 c4 => app [.int .u8 0] 5 1 1 o4 l4 c4 vs n h fun o5 c6 h7 => stC ⟨p, 0 + 1, none⟩ (.slice o5 (l4 + n) c6) h7 K := by
  obtain ⟨⟨q, a, l, c, r, b, hq, ha⟩, ty, lt⟩ := hs
  refine ldL_row (o := 0 + 1) r rfl ?_
  have hlen := b.len
  refine app_ty (Bl.push b (new := new) (by omega) hn hv ?_)
  rintro a' c' h2 b2 k2 n2 ⟨t2, ta⟩
  have np : ¬ blk a p := fun hy => by
    obtain ⟨x, e1, e2⟩ := hy
    obtain ⟨e0, b', e3, e4, e5⟩ := ha x e1
    subst e3
    simp only at e2
    omega
  have ha' : ∀ x, a' = some x → c' ≠ 0 ∧ ∃ b, x = ⟨b, 0, none⟩ ∧ lo ≤ b ∧ Ty h2 b 5 := by
    intro x hx
    rcases ta with ⟨e, ec⟩ | ⟨e, t, ec⟩
    · subst e ec
      obtain ⟨e0, b', e3, e4, e5⟩ := ha x hx
      exact ⟨e0, b', e3, e4, t2 _ _ e5⟩
    · rw [e] at hx
      injection hx with hx
      exact ⟨ec, h.size, hx.symm, hlo, t⟩
  refine stC_ty (stC_row (k2.row r np) (by simp) rfl ?_)
  intro h3 s3 r3 k3 t3
  have nb : ∀ y, blk a' y → ¬ y = p := fun y hy => by
    obtain ⟨x, e1, e2⟩ := hy
    obtain ⟨e0, b', e3, e4, e5⟩ := ha' x e1
    subst e3
    simp only at e2
    omega
  refine hk h3 ⟨⟨q, a', l + n, c', r3, SlR.keep b2 k3 nb, hq, fun x hx => ?_⟩, t3 _ _ (t2 _ _ ty), lt⟩ ((k2.mono (fun y _ hy => ?_)).trans k3 (fun y _ hy => .inl hy))
  · obtain ⟨e0, b', e3, e4, e5⟩ := ha' x hx
    exact ⟨e0, b', e3, e4, t3 _ _ e5⟩
  · obtain ⟨x, e1, e2⟩ := hy
    obtain ⟨e0, b', e3, e4, e5⟩ := ha x e1
    subst e3
    simp only at e2
    subst e2
    exact .inr e4

theorem bdS_trans {h1 h2 : Heap} (k1 : Keep (bdS p lo) h h1) (k2 : Keep (bdS p lo) h1 h2) : Keep (bdS p lo) h h2 := k1.trans' k2

theorem writeS_spec (hs : Bd bdT 5 h p lo bs) (hlo : lo ≤ h.size) {s : ByteArray} (hl : bs.length + s.size ≤ 140737488354000) {R : Int × Value → Heap → Prop} (hk : ∀ x h', Bd bdT 5 h' p lo (bs ++ bl s) → Keep (bdS p lo) h h' → R x h') :
    CallT Try.prog strings_Builder_WriteString_no [.pointer (some ⟨p, 0, none⟩), .string s] h [.sc (.int .i64), .sc .raw] R := by
  apply strings_Builder_WriteString_call
  simp only [strings_Builder_WriteString, nn_eq, add_mk]
  refine check_spec hs ?_
  intro h1 s1 k1 z1
  refine lay_spec s1 (bytesV_bl s) rfl (by omega) hl ?_
  intro h2 s2 k2
  exact hk _ h2 s2 (bdS_trans k1 k2)

theorem write_spec (hs : Bd bdT 5 h p lo bs) (hlo : lo ≤ h.size) {a : Option Addr} {l c : Nat} {new : List UInt8} (hb : Rb h a l new) (hbl : ∀ b, blk a b → 0 < l → ¬ bdS p lo b) (hl : bs.length + l ≤ 140737488354000) {R : Int × Value → Heap → Prop} (hk : ∀ x h', Bd bdT 5 h' p lo (bs ++ new) → Keep (bdS p lo) h h' → R x h') :
    CallT Try.prog strings_Builder_Write_no [.pointer (some ⟨p, 0, none⟩), .slice a l c] h [.sc (.int .i64), .sc .raw] R := by
  have hcall := strings_Builder_Write_call (b_0 := some ⟨p, 0, none⟩) (p_1 := ⟨a, l, c⟩) (R := R) (h := h)
  apply hcall
  simp only [strings_Builder_Write, nn_eq, add_mk]
  have hlen := hb.len
  refine check_spec hs ?_
  intro h1 s1 k1 z1
  have hb1 : Rb h1 a l new := hb.keep k1 (fun h0 b hb' => hbl b hb' h0)
  obtain ⟨⟨q, a0, l0, c0, r, b, hq, ha⟩, ty, lt⟩ := s1
  have key := lay_spec (K := fun h' => R ((l : Int), (.nilIface : Value)) h') (⟨⟨q, a0, l0, c0, r, b, hq, ha⟩, ty, lt⟩ : Bd bdT 5 h1 p lo bs) (n := l) (rfl : new.map byteV = _) hlen (by omega) hl (fun h2 s2 k2 => hk _ h2 s2 (bdS_trans k1 k2))
  obtain ⟨x, y, z, e, w⟩ := key
  exact ⟨x, y, z, e, Rv.rd hb1 w⟩

theorem string_spec (hs : Bd bdT 5 h p lo bs) (hl : bs.length ≤ 140737488354000) {R : ByteArray → Heap → Prop} (hk : ∀ h', Keep (bdS p lo) h h' → R (ofL bs) h') :
    CallT Try.prog strings_Builder_String_no [.pointer (some ⟨p, 0, none⟩)] h [.sc .str] R := by
  apply strings_Builder_String_call
  simp only [strings_Builder_String, nn_eq, add_mk]
  obtain ⟨⟨q, a, l, c, r, b, hq, ha⟩, ty, lt⟩ := hs
  refine ldL_row (o := 0 + 1) r rfl ?_
  refine ldL_row (o := 0 + 1) r rfl ?_
  have hlen := b.len
  have nil : bs = [] → R ByteArray.empty h := fun e => by
    subst e
    exact hk h (.refl _ _)
  cases a with
  | none =>
    show _ ∧ _
    refine ⟨ldL_row (o := 0 + 1) r rfl rfl, .inl ?_⟩
    rcases b with ⟨_, e1, _, e2⟩ | ⟨_, _, _, e, _⟩
    · have e3 : bs = [] := by simpa using e2
      exact ⟨by omega, nil e3⟩
    · cases e
  | some x =>
    obtain ⟨e0, b', e3, e4, e5⟩ := ha x rfl
    subst e3
    have hc := e0
    refine ⟨hc, ldL_row (o := 0 + 1) r rfl rfl, ?_⟩
    by_cases h0 : bs = []
    · exact .inl ⟨by rw [hlen, h0]; rfl, nil h0⟩
    · refine .inr ⟨b', bs, rfl, h0, by rw [hlen], by omega, ?_, ?_, hk _ ?_⟩
      · obtain ⟨cs, f, e⟩ := e5
        refine ⟨cs, f, e, ?_⟩
        rcases b with ⟨h1, _⟩ | ⟨b2, o2, cs2, h1, r2, h3, h4, h5, h6⟩
        · cases h1
        · injection h1 with h1
          injection h1 with w1 w2
          subst w1 w2
          obtain ⟨_, _, _, e2, _⟩ := r2
          rw [e] at e2
          injection e2 with e2
          injection e2 with e2
          subst e2
          simp
          omega
      · intro i v hv
        have hi : i < l * 1 := by
          have := (List.getElem?_eq_some_iff.1 hv).1
          omega
        rw [SlR.cell b hi, List.getElem?_map, hv]
        rfl
      · refine ⟨by simp [frzR], fun y hy hn => ?_⟩
        simp only [frzR, Array.getElem?_modify]
        rw [if_neg (fun e => hn (.inr (by omega)))]
end
end Go.Proofs.Ytjpmjhnjdnbopaa
