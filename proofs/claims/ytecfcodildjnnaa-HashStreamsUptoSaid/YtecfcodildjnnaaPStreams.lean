/- hash.Stream's sum, and HashStreams. -/
import Derived.Test.YtecfcodildjnnaaPSumsC
import Derived.Test.YtecfcodildjnnaaPStream
import Derived.Test.YtecfcodildjnnaaGStream
namespace Go.Proofs.Ytecfcodildjnnaa
open Go D
set_option linter.unusedVariables false
set_option linter.unusedSimpArgs false

/-- slices of bytes that came in -/
def BlsAt (n : Nat) (h : Heap) (a : Option Addr) (l : Nat) : Prop := ∀ i : Nat, i < l → ∃ x a' l' c', a = some x ∧ cellH h (x.add (i * 1)) = some (.slice a' l' c') ∧ Rb h a' l' (bytesAt h a' l') ∧ l' ≤ c' ∧ l' ≤ n
theorem bls_of {h : Heap} {a : Option Addr} {l c n : Nat} (hs : InSl 1 (InSl 1 (InInt .u8)) h n [.slice a l c]) : BlsAt n h a l := by
  rcases hs with h1 | ⟨x, l', c', h1, h2, h3, h4, h5⟩
  · injection h1 with h1
    injection h1 with h1 h2 h3
    subst h2
    intro i hi
    omega
  · injection h1 with h1
    injection h1 with e1 e2 e3
    subst e1 e2 e3
    intro i hi
    obtain ⟨r, b, g1, gb, g2, g3⟩ := h5 i (by omega)
    have hg := g2 0 (by omega)
    rw [add_zero] at hg
    obtain ⟨a', l', c', hr⟩ : ∃ a' l' c', r = [.slice a' l' c'] := by
      rcases g3 with e | ⟨y, l', c', e, _⟩
      · exact ⟨none, 0, 0, e⟩
      · exact ⟨_, _, _, e⟩
    subst hr
    obtain ⟨w1, w2, w3⟩ := bytes_of g3
    exact ⟨x, a', l', c', rfl, hg, w1, w2, by omega⟩

theorem isZ_yes {t : TypeId} {Y N : Prop} (h : Y) : isZ (.iface t (.agg #[])) t Y N := by
  unfold isZ
  simp only [Nat.beq_refl]
  exact ⟨trivial, h⟩
theorem isZ_no {t t' : TypeId} {p : Value} {Y N : Prop} (hne : Nat.beq t' t = false) (h : N) : isZ (.iface t' p) t Y N := by
  unfold isZ
  simp only [hne]
  exact h

theorem nilD_iface {t : TypeId} {p : Value} {K : Value → Prop} (h : K (.iface t p)) : nilD (.iface t p) K := h

namespace Hash

def kindF (ty : TypeId) (bs : List UInt8) : List UInt8 := if ty = 58 then md5F bs else sha256F bs

theorem sum_spec {mu : Nat → Prop} {h : Heap} {p : Nat} {ty : TypeId} {bs : List UInt8} (hs : St h p ty mu bs) (ht : ty = 58 ∨ ty = 63) (hl : bs.length ≤ 140737488352000) {R : Sl → Heap → Prop}
    (hk : ∀ s h', Bl h' s.a s.len s.cap (kindF ty bs) → (∀ b, blk s.a b → h.size ≤ b) → Keep (fun _ => False) h h' → R s h') :
    CallT Try.prog hash_Stream_Sum_no [.pointer (some ⟨p, 0, none⟩)] h [.sc .sl] R := by
  apply hash_Stream_Sum_call
  obtain ⟨⟨a, c, r, b, n, m1, m2⟩, lt⟩ := hs
  simp only [hash_Stream_Sum, nn_eq, add_mk]
  have hcap := SlR.le b
  refine ⟨_, by rw [r.cells]; rfl, ?_⟩
  have md : ∀ {h1 : Heap}, Keep (fun _ => False) h h1 → kindF ty bs = md5F bs → CallT Try.prog hash_md_sum_no [.agg #[], .slice a bs.length c] h1 [.sc (.sl)] fun (r7 : Sl) h8 => R r7 h8 := by
    intro h1 k1 e
    have hcall := hash_md_sum_call (x_0 := ()) (b_1 := ⟨a, bs.length, c⟩) (R := R) (h := h1)
    apply hcall
    simp only [hash_md_sum]
    refine newB_row ?_
    intro h2 s2 o2 k2
    have k12 := k1.trans' k2
    refine md5_spec (Rv.keep b.rb k12 (fun _ _ _ h => h)) hcap (by omega) ?_
    intro s h3 b3 n3 k3
    rw [← e] at b3
    have := k12.size
    exact hk s h3 b3 (fun y hy => by have := n3 y hy; omega) (k12.trans' k3)
  have sh : ∀ {h1 : Heap}, Keep (fun _ => False) h h1 → kindF ty bs = sha256F bs → CallT Try.prog hash_sha_sum_no [.agg #[], .slice a bs.length c] h1 [.sc (.sl)] fun (r7 : Sl) h8 => R r7 h8 := by
    intro h1 k1 e
    have hcall := hash_sha_sum_call (x_0 := ()) (b_1 := ⟨a, bs.length, c⟩) (R := R) (h := h1)
    apply hcall
    simp only [hash_sha_sum]
    refine newB_row ?_
    intro h2 s2 o2 k2
    have k12 := k1.trans' k2
    refine sha256_spec (Rv.keep b.rb k12 (fun _ _ _ h => h)) hcap (by omega) ?_
    intro s h3 b3 _ n3 k3
    rw [← e] at b3
    have := k12.size
    exact hk s h3 b3 (fun y hy => by have := n3 y hy; omega) (k12.trans' k3)
  rcases ht with rfl | rfl
  · refine isZ_yes ?_
    refine newB_row ?_
    intro h1 s1 o1 k1
    refine ldL_row (o := 0 + 1) (k1.row r (fun h => h)) rfl ?_
    exact md k1 rfl
  · refine isZ_no rfl ?_
    refine newB_row ?_
    intro h1 s1 o1 k1
    have r1 := k1.row r (fun h => h)
    refine ⟨_, by rw [r1.cells]; rfl, ?_⟩
    refine ldL_row (o := 0 + 1) r1 rfl ?_
    refine nilD_iface ?_
    refine isZ_no rfl (isZ_yes ?_)
    exact sh k1 rfl

/-- the law's end -/
def endT (kind : Int) (r1 : Option Addr) (all : Sl) (R : Bool → Heap → Prop) (h11 : Heap) : Prop :=
  CallT Try.prog ref2_MD5_no [.slice all.a all.len all.cap] h11 [.sc (.sl)] fun (r46 : Sl) h47 =>
  withJ (σ := Sl) (fun s48 h50 =>
  withJ (σ := Bool) (fun s51 h53 =>
  R s51 h53) (fun J52 =>
  CallT Try.prog hash_Stream_Sum_no [.pointer r1] h50 [.sc (.sl)] fun (r54 : Sl) h55 =>
  CallT Try.prog law1_Same_no [.slice r54.a r54.len r54.cap, .slice s48.a s48.len s48.cap] h55 [.sc (.bool)] fun (r56 : Bool) h57 =>
  cnd r56 (
  CallT Try.prog hash_Stream_Sum_no [.pointer r1] h57 [.sc (.sl)] fun (r58 : Sl) h59 =>
  CallT Try.prog law1_Same_no [.slice r58.a r58.len r58.cap, .slice s48.a s48.len s48.cap] h59 [.sc (.bool)] fun (r60 : Bool) h61 =>
  cnd r60 (
  CallT Try.prog hash_Stream_Size_no [.pointer r1] h61 [.sc (.int .i64)] fun (r62 : Int) h63 =>
  cnd (r62 == (all.len : Int)) (
  CallT Try.prog law2_awake_no [] h63 [.sc (.bool)] fun (r64 : Bool) h65 =>
  J52 r64 h65) (
  J52 false h63)) (
  J52 false h61)) (
  J52 false h57))) (fun J49 =>
  cnd (kind == 2) (
  CallT Try.prog ref2_SHA256_no [.slice all.a all.len all.cap] h47 [.sc (.sl)] fun (r66 : Sl) h67 =>
  J49 r66 h67) (
  J49 r46 h47))

theorem end_spec {h : Heap} {kind : Int} {p : Nat} {ty : TypeId} {mu : Nat → Prop} {all : Sl} {bs : List UInt8} (hkt : kind = 1 ∧ ty = 58 ∨ kind = 2 ∧ ty = 63) (st : St h p ty mu bs) (hb : Bl h all.a all.len all.cap bs) (hl : bs.length ≤ 140737488350000) {R : Bool → Heap → Prop} (hR : ∀ h', Keep (fun _ => False) h h' → R true h') : endT kind (some ⟨p, 0, none⟩) all R h := by
  unfold endT
  have ht : ty = 58 ∨ ty = 63 := by
    rcases hkt with ⟨_, e⟩ | ⟨_, e⟩
    · exact .inl e
    · exact .inr e
  have e0 := hb.len
  refine Ref2.md5_spec hb.rb (by omega) ?_
  intro s1 h1 b1 k1
  have tail : ∀ (s : Sl) h2, Keep (fun _ => False) h h2 → Bl h2 s.a s.len s.cap (kindF ty bs) → withJ (σ := Bool) (fun s51 h53 => R s51 h53) (fun J52 =>
      CallT Try.prog hash_Stream_Sum_no [.pointer (some ⟨p, 0, none⟩)] h2 [.sc (.sl)] fun (r54 : Sl) h55 =>
      CallT Try.prog law1_Same_no [.slice r54.a r54.len r54.cap, .slice s.a s.len s.cap] h55 [.sc (.bool)] fun (r56 : Bool) h57 =>
      cnd r56 (
      CallT Try.prog hash_Stream_Sum_no [.pointer (some ⟨p, 0, none⟩)] h57 [.sc (.sl)] fun (r58 : Sl) h59 =>
      CallT Try.prog law1_Same_no [.slice r58.a r58.len r58.cap, .slice s.a s.len s.cap] h59 [.sc (.bool)] fun (r60 : Bool) h61 =>
      cnd r60 (
      CallT Try.prog hash_Stream_Size_no [.pointer (some ⟨p, 0, none⟩)] h61 [.sc (.int .i64)] fun (r62 : Int) h63 =>
      cnd (r62 == (all.len : Int)) (
      CallT Try.prog law2_awake_no [] h63 [.sc (.bool)] fun (r64 : Bool) h65 =>
      J52 r64 h65) (
      J52 false h63)) (
      J52 false h61)) (
      J52 false h57)) := by
    intro s h2 k2 b2
    refine withJ.inl ?_
    refine sum_spec (st.keep k2 (fun _ _ h => h)) ht (by omega) ?_
    intro s3 h3 b3 _ k3
    refine same_spec b3.rb (Rv.keep b2.rb k3 (fun _ _ _ h => h)) rfl ?_
    refine cnd_t rfl ?_
    have k03 := k2.trans' k3
    refine sum_spec (st.keep k03 (fun _ _ h => h)) ht (by omega) ?_
    intro s4 h4 b4 _ k4
    have k04 := k03.trans' k4
    refine same_spec b4.rb (Rv.keep (Rv.keep b2.rb k3 (fun _ _ _ h => h)) k4 (fun _ _ _ h => h)) rfl ?_
    refine cnd_t rfl ?_
    refine size_spec (st.keep k04 (fun _ _ h => h)) ?_
    refine cnd_t (by simp; omega) ?_
    exact awake_spec fun h5 k5 => hR h5 (k04.trans' k5)
  refine withJ.intro (fun (s : Sl) h2 => Keep (fun _ => False) h h2 ∧ Bl h2 s.a s.len s.cap (kindF ty bs)) (fun s h2 hh => tail s h2 hh.1 hh.2) ?_
  intro J hJ
  rcases hkt with ⟨e1, e2⟩ | ⟨e1, e2⟩
  · refine cnd_f (by rw [e1]; rfl) ?_
    refine hJ _ _ ⟨k1, ?_⟩
    have : kindF ty bs = md5F bs := by unfold kindF; rw [if_pos e2]
    rw [this]
    exact b1
  · refine cnd_t (by rw [e1]; rfl) ?_
    refine Ref2.sha256_spec (Rv.keep hb.rb k1 (fun _ _ _ h => h)) (by omega) ?_
    intro s2 h2 b2 k2
    refine hJ _ _ ⟨k1.trans' k2, ?_⟩
    have : kindF ty bs = sha256F bs := by unfold kindF; rw [if_neg (by rw [e2]; decide)]
    rw [this]
    exact b2

/-- bytes of one's own are written over -/
theorem wipe {h : Heap} {a : Option Addr} {l c : Nat} {vs : List Value} (hs : SlR h 1 a l c vs) (hl : l ≤ 1000000000000) (n : Int) {K : Heap → Prop} (hk : ∀ h', Keep (blk a) h h' → K h') :
    LoopT (σ := Int) (fun X s h' => cnd (decide (s < (l : Int))) (idx a l s fun x => stC (x.add (s.toNat * 1)) (.int .u8 n) h' fun h'' => X (w64 (s + 1)) h'') (K h')) 0 h := by
  refine LoopT.intro (fun i h' => 0 ≤ i ∧ i ≤ l ∧ (∃ vs, SlR h' 1 a l c vs) ∧ Keep (blk a) h h') (fun i _ => ((l : Int) - i).toNat) ⟨by omega, by omega, ⟨vs, hs⟩, .refl _ _⟩ ?_
  rintro i h1 ⟨q1, q2, ⟨ws, q3⟩, q4⟩
  refine cnd_dec (fun hi => ?_) (fun _ => hk h1 q4)
  refine q3.idx q1 hi fun x hx hsp => ?_
  subst hx
  refine q3.set (i := i.toNat * 1) (by omega) rfl ?_
  intro h2 s2 w2 k2
  have hw : w64 (i + 1) = i + 1 := w64_id (by omega) (by omega)
  rw [hw]
  exact ⟨⟨by omega, by omega, ⟨_, w2⟩, q4.trans' (k2.mono (fun b _ e => blk_some.2 (by have e' : b = x.block := e; rw [e'])))⟩, by omega⟩

theorem hashStreams_spec {h : Heap} {kind ask : Int} {x1 : Sl} (hk1 : InI kind) (hs : BlsAt 1048576 h x1.a x1.len) {R : Bool → Heap → Prop} (hR : ∀ h', Keep (fun _ => False) h h' → R true h') :
    CallT Try.prog law2_HashStreams_no [.int .i64 kind, .slice x1.a x1.len x1.cap, .int .i64 ask] h [.sc .bool] R := by
  apply law2_HashStreams_call
  simp only [law2_HashStreams]
  have aw : ∀ {h1 : Heap}, Keep (fun _ => False) h h1 → CallT Try.prog law2_awake_no [] h1 [.sc .bool] R := fun k1 => awake_spec fun h2 k2 => hR h2 (k1.trans' k2)
  refine new_spec (fun n1 n2 => ?_) ?_
  · refine withJ.inl (withJ.inl ?_)
    refine cnd_t (by simpa using n1) (cnd_t (by simpa using n2) ?_)
    refine withJ.inl ?_
    exact cnd_t rfl (cnd_t rfl (aw (.refl _ _)))
  intro h1 st1 st2 k1 s1 hkind
  obtain ⟨ty, hty, hkt, st⟩ : ∃ ty : TypeId, (ty = 58 ∨ ty = 63) ∧ (kind = 1 ∧ ty = 58 ∨ kind = 2 ∧ ty = 63) ∧ St h1 h.size ty (· = h.size) [] := by
    rcases hkind with e | e
    · exact ⟨58, .inl rfl, .inl ⟨e, rfl⟩, st1 e⟩
    · exact ⟨63, .inr rfl, .inr ⟨e, rfl⟩, st2 e⟩
  refine withJ.intro (fun _ h' => h' = h1) ?_ ?_
  rotate_left
  · intro J hJ
    refine withJ.inl ?_
    rcases hkt with ⟨e, _⟩ | ⟨e, _⟩
    · exact cnd_f (by rw [e]; rfl) (cnd_f rfl (hJ _ _ rfl))
    · exact cnd_t (by rw [e]; rfl) (cnd_f (by rw [e]; rfl) (hJ _ _ rfl))
  rintro _ _ rfl
  refine withJ.inl (withJ.inl ?_)
  refine cnd_f rfl (cnd_f rfl ?_)
  have nob : ∀ b, ¬ blk none b := fun b hb => by obtain ⟨x, hx, _⟩ := hb; cases hx
  refine LoopT.intro (fun (v : Sl × Int) h' => 0 ≤ v.2 ∧ v.2 ≤ 50 ∧ ∃ bs mu, St h' h.size ty mu bs ∧ Bl h' v.1.a v.1.len v.1.cap bs ∧ (bs.length : Int) ≤ v.2 * 1048576 ∧ (∀ b, mu b → h.size ≤ b ∧ ¬ blk v.1.a b) ∧ (∀ b, blk v.1.a b → h.size ≤ b) ∧ Keep (fun y => h.size ≤ y) h h') (fun v _ => (50 - v.2).toNat)
    ⟨by show (0 : Int) ≤ 0; omega, by show (0 : Int) ≤ 50; omega, [], _, st, SlR.nil _ _, by show (0 : Int) ≤ 0 * 1048576; omega, fun b hb => ⟨by have hb' : b = h.size := hb; omega, nob b⟩, fun b hb => absurd hb (nob b), k1.mono (fun _ _ h => h.elim)⟩ ?_
  rintro ⟨all, i⟩ h2 ⟨g1, g2, bs, mu, st2', ba, g3, g4, g5, kk⟩
  replace g1 : 0 ≤ i := g1
  replace g2 : i ≤ 50 := g2
  replace ba : Bl h2 all.a all.len all.cap bs := ba
  replace g3 : (bs.length : Int) ≤ i * 1048576 := g3
  replace g4 : ∀ b, mu b → h.size ≤ b ∧ ¬ blk all.a b := g4
  replace g5 : ∀ b, blk all.a b → h.size ≤ b := g5
  have out : Keep (fun _ => False) h h2 := kk.mono (fun y hy hh => by have : h.size ≤ y := hh; omega)
  have ex : endT kind (some ⟨h.size, 0, none⟩) all R h2 := end_spec hkt st2' ba (by omega) fun h3 k3 => hR h3 (out.trans' k3)
  refine withJ.inl ?_
  refine cnd_dec (fun hi1 => ?_) (fun _ => ex)
  refine cnd_dec (fun hi2 => ?_) (fun _ => ex)
  replace hi1 : i < x1.len := hi1
  replace hi2 : i < 50 := hi2
  have hw : w64 (i + 1) = i + 1 := w64_id (by omega) (by omega)
  obtain ⟨x, a', l', c', hx, hc, hb, hcap, hmax⟩ := hs i.toNat (by omega)
  have hxl := cell_lt hc
  have ld : ∀ {h'' : Heap} {K : Option Addr → Nat → Nat → Prop}, Keep (fun y => h.size ≤ y) h h'' → K a' l' c' → idx x1.a x1.len i fun y => ldL (y.add (i.toNat * 1)) h'' K := fun kk hK => by
    rw [hx]
    exact idx_some g1 hi1 (ldL_at (kk.cell hc (by omega)) hK)
  have hbt : ∀ {h'' : Heap}, Keep (fun y => h.size ≤ y) h h'' → Rb h'' a' l' (bytesAt h a' l') := fun kk => Rv.keep hb kk (fun hl b hb' hh => by
    have := Rv.lt hb hl hb'
    have hh' : h.size ≤ b := hh
    omega)
  obtain ⟨ds, hds⟩ : ∃ ds, ds = bytesAt h a' l' := ⟨_, rfl⟩
  rw [← hds] at hbt
  have hdl := (hbt kk).len
  refine withJ.intro (fun (v : Sl) h' => ∃ bs mu, St h' h.size ty mu bs ∧ Bl h' v.a v.len v.cap bs ∧ (bs.length : Int) ≤ (i + 1) * 1048576 ∧ (∀ b, mu b → h.size ≤ b ∧ ¬ blk v.a b) ∧ (∀ b, blk v.a b → h.size ≤ b) ∧ Keep (fun y => h.size ≤ y) h h') ?_ ?_
  · rintro v h3 hinv
    show (0 ≤ w64 (i + 1) ∧ w64 (i + 1) ≤ 50 ∧ ∃ bs mu, St h3 h.size ty mu bs ∧ Bl h3 v.a v.len v.cap bs ∧ (bs.length : Int) ≤ w64 (i + 1) * 1048576 ∧ (∀ b, mu b → h.size ≤ b ∧ ¬ blk v.a b) ∧ (∀ b, blk v.a b → h.size ≤ b) ∧ Keep (fun y => h.size ≤ y) h h3) ∧ (50 - w64 (i + 1)).toNat < (50 - i).toNat
    rw [hw]
    exact ⟨⟨by omega, by omega, hinv⟩, by omega⟩
  intro J hJ
  have z0 := kk.size
  refine newB_row ?_
  intro h3 s3 o3 k3
  have kk3 := kk.trans k3 (fun _ _ h => h.elim)
  refine ld kk3 ?_
  refine Rv.rd (hbt kk3) ?_
  have b3 : Bl h3 (some ⟨h2.size, 0, none⟩) 0 0 [] := .inr ⟨h2.size, 0, _, rfl, o3, by omega, by simp, by simp, by simp⟩
  refine b3.push (new := ds) (by omega) hdl rfl ?_
  intro a4 c4 h4 b4 k4 n4
  have z3 := k3.size
  have k24 : Keep (fun _ => False) h2 h4 := k3.trans k4 (fun y hy hh => by
    rw [blk_some] at hh
    simp only at hh
    omega)
  have n4' : ∀ b, blk a4 b → h2.size ≤ b := fun b hb => by
    rcases n4 b hb with hh | hh
    · rw [blk_some] at hh
      simp only at hh
      omega
    · omega
  have st4 := st2'.keep k24 (fun _ _ h => h)
  refine write_spec st4 b4.rb (by omega) ?_
  intro mu5 h5 st5 k5 gr5
  have b5 : Bl h5 a4 (0 + l') c4 ([] ++ ds) := SlR.keep b4 k5 (fun b hb hm => by
    have := n4' b hb
    have := st2'.lt b hm
    omega)
  refine wipe b5 (by omega) 9 ?_
  intro h6 k6
  have k46 : Keep mu h4 h5 := k5
  have st6 := st5.keep k6 (fun b hb hh => by
    have g := n4' b hh
    rcases gr5 b hb with hm | hm
    · have := st2'.lt b hm; omega
    · have := SlR.blk_lt b4 hh; omega)
  have kk4 := kk.trans k24 (fun _ _ h => h.elim)
  have kk5 := kk4.trans k5 (fun y _ hm => (g4 y hm).1)
  have kk6 := kk5.trans k6 (fun y _ hh => by
    have := n4' y hh
    show h.size ≤ y
    omega)
  have z24 := k24.size
  have z5 := k5.size
  have z6 := k6.size
  have ba6 : Bl h6 all.a all.len all.cap bs := SlR.keep (SlR.keep (SlR.keep ba k24 (fun _ _ h => h)) k5 (fun b hb hm => (g4 b hm).2 hb)) k6 (fun b hb hh => by
    have := n4' b hh
    have := SlR.blk_lt ba hb
    omega)
  refine ld kk6 ?_
  refine Rv.rd (hbt kk6) ?_
  have bal := ba.len
  refine ba6.push (new := ds) (by omega) hdl rfl ?_
  intro a7 c7 h7 b7 k7 n7
  have dis : ∀ b, mu5 b → ¬ blk all.a b := fun b hb hh => by
    rcases gr5 b hb with hm | hm
    · exact (g4 b hm).2 hh
    · have := SlR.blk_lt ba hh; omega
  have st7 := st6.keep k7 dis
  have mu5h : ∀ b, mu5 b → h.size ≤ b := fun b hb => by
    rcases gr5 b hb with hm | hm
    · exact (g4 b hm).1
    · omega
  have inv : ∀ h8, Keep (fun _ => False) h7 h8 → ∃ bs mu, St h8 h.size ty mu bs ∧ Bl h8 a7 (all.len + l') c7 bs ∧ (bs.length : Int) ≤ (i + 1) * 1048576 ∧ (∀ b, mu b → h.size ≤ b ∧ ¬ blk a7 b) ∧ (∀ b, blk a7 b → h.size ≤ b) ∧ Keep (fun y => h.size ≤ y) h h8 := fun h8 k8 => by
    refine ⟨bs ++ ds, mu5, ?_, SlR.keep b7 k8 (fun _ _ h => h), by rw [List.length_append]; omega, fun b hb => ⟨mu5h b hb, fun hh => ?_⟩, fun b hb => ?_, (kk6.trans k7 (fun y _ hh => g5 y hh)).trans k8 (fun _ _ h => h.elim)⟩
    · have e : bs ++ ([] ++ ds) = bs ++ ds := by simp
      rw [← e]
      exact st7.keep k8 (fun _ _ h => h)
    · rcases n7 b hh with hm | hm
      · exact dis b hb hm
      · have := st6.lt b hb; omega
    · rcases n7 b hb with hm | hm
      · exact g5 b hm
      · omega
  refine cnd_of (fun _ => ?_) (fun _ => hJ _ _ (inv h7 (.refl _ _)))
  have e : bs ++ ([] ++ ds) = bs ++ ds := by simp
  refine sum_spec st7 hty (by rw [e, List.length_append]; omega) ?_
  intro s8 h8 b8 n8 k8
  refine wipe b8 ?_ 0 ?_
  · have := b8.len
    have hk : (kindF ty (bs ++ ([] ++ ds))).length ≤ 64 := by
      unfold kindF
      split
      · simp [md5F, le4]
      · rw [sha256F_length]; omega
    omega
  intro h9 k9
  exact hJ _ _ (inv h9 (k8.trans k9 (fun y hy hh => by have := n8 y hh; omega)))

end Hash
end Go.Proofs.Ytecfcodildjnnaa
