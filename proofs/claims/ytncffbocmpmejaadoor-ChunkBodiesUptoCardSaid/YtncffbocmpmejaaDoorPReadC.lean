/- The document's Decode, and ChunkDecodes. -/
import Derived.Test.YtncffbocmpmejaaDoorPReadB
import Derived.Test.YtncffbocmpmejaaDoorPEncs
namespace Go.Proofs.YtncffbocmpmejaaDoor
open Go D
set_option linter.unusedVariables false
set_option linter.unusedSimpArgs false
namespace Chunk
open Hash (hexL hmacF sha256F hexB)

section
variable {h : Heap} {p : Nat} {a : Option Addr} {l c at_ : Nat} {body : List UInt8}

/-- a piece's head -/
theorem head_spec (r : Rdr h p a l c at_ 0) (hb : Rb h a l body) (hc : l ≤ c) (hp : ∀ b, blk a b → 0 < l → b ≠ p) (hl : l ≤ 1000000000) (hat : at_ ≤ l) {K : Int → ByteArray → Heap → Prop}
    (bad : ∀ e at' n x h', e ≠ 0 → pieceF (body.drop at_) = errP e → Rdr h' p a l c at' e → Keep (· = p) h h' → K n x h')
    (good : ∀ size sum at' h', Rdr h' p a l c at' 0 → at' ≤ l → size < 4294967296 → sum.length = 64 → pieceF (body.drop at_) = (if (body.drop at').length < size then errP 307 else pz2 sum ((body.drop at').take size) size (eatF ((body.drop at').drop size) crL)) → Keep (· = p) h h' → K ((size : Nat) : Int) (ofL sum) h') :
    CallT Tryd.prog ref19_Reader_size_no [.pointer (some ⟨p, 0, none⟩)] h [.sc (.int .i64)] fun (r9 : Int) h10 =>
    CallT Tryd.prog ref19_Reader_eat_no [.pointer (some ⟨p, 0, none⟩), .string (⟨#[59, 99, 104, 117, 110, 107, 45, 115, 105, 103, 110, 97, 116, 117, 114, 101, 61]⟩ : ByteArray)] h10 [] fun (r11 : Unit) h12 =>
    CallT Tryd.prog ref19_Reader_name_no [.pointer (some ⟨p, 0, none⟩)] h12 [.sc (.str)] fun (r13 : ByteArray) h14 =>
    CallT Tryd.prog ref19_Reader_eat_no [.pointer (some ⟨p, 0, none⟩), .string (⟨#[13, 10]⟩ : ByteArray)] h14 [] fun (r15 : Unit) h16 => K r9 r13 h16 := by
  have hlen := hb.len
  have hsl : (body.drop at_).length = l - at_ := by rw [List.length_drop]; omega
  have off : ∀ {e : Int} {at' : Nat} {h' : Heap} {n : Int}, e ≠ 0 → pieceF (body.drop at_) = errP e → Rdr h' p a l c at' e → at' ≤ l → Keep (· = p) h h' →
      CallT Tryd.prog ref19_Reader_eat_no [.pointer (some ⟨p, 0, none⟩), .string (⟨#[59, 99, 104, 117, 110, 107, 45, 115, 105, 103, 110, 97, 116, 117, 114, 101, 61]⟩ : ByteArray)] h' [] fun (r11 : Unit) h12 =>
      CallT Tryd.prog ref19_Reader_name_no [.pointer (some ⟨p, 0, none⟩)] h12 [.sc (.str)] fun (r13 : ByteArray) h14 =>
      CallT Tryd.prog ref19_Reader_eat_no [.pointer (some ⟨p, 0, none⟩), .string (⟨#[13, 10]⟩ : ByteArray)] h14 [] fun (r15 : Unit) h16 => K n r13 h16 := by
    intro e at' h' n he hpc r' hat' k'
    refine eatOff_spec r' he ?_
    refine nameOff_spec r' he (bodyK hb hp k') hc hl hat' ?_
    intro x
    refine eatOff_spec r' he ?_
    exact bad e at' n x h' he hpc r' k'
  refine size_spec r hb hp hl hat ?_
  intro h1 r1 k1
  have hn := runN_le 8 (body.drop at_)
  have hva := valN_lt (s := (body.drop at_).take (runN 8 (body.drop at_))) (fun i b e => by
    have hi := (List.getElem?_eq_some_iff.1 e).1
    rw [List.length_take] at hi
    rw [List.getElem?_take, if_pos (by omega)] at e
    exact runN_dg (k := 8) (by omega) e) (runN 8 (body.drop at_)) (by rw [List.length_take]; omega)
  rw [List.take_of_length_le (show ((body.drop at_).take (runN 8 (body.drop at_))).length ≤ _ by rw [List.length_take]; omega)] at hva
  have hpc : pieceF (body.drop at_) = _ := rfl
  conv at hpc => rhs; unfold pieceF
  have e16 : (16 : Nat) ^ 8 = 4294967296 := by decide
  have hv2 : (16 : Nat) ^ runN 8 (body.drop at_) ≤ 16 ^ 8 := Nat.pow_le_pow_right (by omega) hn.1
  generalize hN : runN 8 (body.drop at_) = n at *
  generalize hV : valN ((body.drop at_).take n) = size at *
  have hdd : (body.drop at_).drop n = body.drop (at_ + n) := by rw [List.drop_drop]
  rw [hdd] at hpc
  by_cases c1 : at_ + n = l
  · rw [if_pos c1] at r1
    refine off (by decide) ?_ r1 (by omega) k1
    have e0 : body.drop (at_ + n) = [] := List.drop_eq_nil_of_le (by omega)
    have e1 : eatF ([] : List UInt8) markL = ([], 307) := by decide
    rw [hpc, e0, e1, if_neg (fun hh => hh.2 (List.length_eq_zero_iff.1 (by omega))), if_pos (by decide)]
  · rw [if_neg c1] at r1
    by_cases c2 : n = 0
    · rw [if_pos c2] at r1
      refine off (by decide) ?_ r1 (by omega) k1
      rw [hpc, if_pos ⟨c2, fun e => by rw [e] at hsl; simp at hsl; omega⟩]
    · rw [if_neg c2] at r1
      rw [if_neg (fun hh => c2 hh.1)] at hpc
      refine eat19_spec r1 (bodyK hb hp k1) hp hl (by omega) (by decide) ?_
      intro at2 h2 r2 hat2 heq2 k2
      rw [show bl (⟨#[59, 99, 104, 117, 110, 107, 45, 115, 105, 103, 110, 97, 116, 117, 114, 101, 61]⟩ : ByteArray) = markL from rfl] at r2 heq2
      have K2 := k1.trans' k2
      by_cases c3 : (eatF (body.drop (at_ + n)) markL).2 = 0
      · rw [c3] at r2
        rw [if_neg (by simpa using c3)] at hpc
        have heq2' := heq2 c3
        have e17 : (⟨#[59, 99, 104, 117, 110, 107, 45, 115, 105, 103, 110, 97, 116, 117, 114, 101, 61]⟩ : ByteArray).size = 17 := rfl
        rw [e17] at heq2'
        have e1 := (eat_ok c3).1
        have lm : markL.length = 17 := rfl
        rw [lm, List.drop_drop, ← heq2'] at e1
        rw [e1] at hpc
        refine name_spec r2 (bodyK hb hp K2) hc hp hl hat2 ?_
        intro at3 x h3 r3 hat3 heq3 k3
        have K3 := K2.trans' k3
        unfold py at hpc
        have hsl2 : (body.drop at2).length = l - at2 := by rw [List.length_drop]; omega
        have hr2 := runN_le 64 (body.drop at2)
        by_cases c4 : runN 64 (body.drop at2) = 64
        · have e3 : nameF (body.drop at2) = 0 := by unfold nameF; rw [if_pos c4]
          rw [e3] at r3
          obtain ⟨e4, e5⟩ := heq3 e3
          rw [if_neg (by omega), if_neg (by omega)] at hpc
          refine eat19_spec r3 (bodyK hb hp K3) hp hl hat3 (by decide) ?_
          intro at4 h4 r4 hat4 heq4 k4
          rw [show bl (⟨#[13, 10]⟩ : ByteArray) = crL from rfl] at r4 heq4
          have K4 := K3.trans' k4
          unfold pz at hpc
          have e6 : (body.drop at2).drop 64 = body.drop at3 := by rw [List.drop_drop, e4]
          rw [e6] at hpc
          by_cases c5 : (eatF (body.drop at3) crL).2 = 0
          · rw [c5] at r4
            rw [if_neg (by simpa using c5)] at hpc
            have heq4' := heq4 c5
            have e2s : (⟨#[13, 10]⟩ : ByteArray).size = 2 := rfl
            rw [e2s] at heq4'
            have e7 := (eat_ok c5).1
            have lc : crL.length = 2 := rfl
            rw [lc, List.drop_drop, ← heq4'] at e7
            rw [e7] at hpc
            subst e5
            exact good size ((body.drop at2).take 64) at4 h4 r4 hat4 (by omega) (by rw [List.length_take]; omega) hpc K4
          · rw [if_pos c5] at hpc
            exact bad _ at4 _ x h4 c5 hpc r4 K4
        · have e3 : nameF (body.drop at2) = if runN 64 (body.drop at2) = (body.drop at2).length then 307 else 308 := by unfold nameF; rw [if_neg c4]
          by_cases c6 : runN 64 (body.drop at2) = (body.drop at2).length
          · rw [e3, if_pos c6] at r3
            rw [if_neg (by omega), if_pos (by omega)] at hpc
            refine eatOff_spec r3 (by decide) ?_
            exact bad 307 at3 _ x h3 (by decide) hpc r3 K3
          · rw [e3, if_neg c6] at r3
            rw [if_pos (by omega)] at hpc
            refine eatOff_spec r3 (by decide) ?_
            exact bad 308 at3 _ x h3 (by decide) hpc r3 K3
      · rw [if_pos c3] at hpc
        refine nameOff_spec r2 c3 (bodyK hb hp K2) hc hl hat2 ?_
        intro x
        refine eatOff_spec r2 c3 ?_
        exact bad _ at2 _ x h2 c3 hpc r2 K2
end

theorem decode19_spec {h : Heap} {w : Wh} {ka ba : Option Addr} {kl kc blen bc : Nat} {body : List UInt8} {size : Int} (hkey : Rb h ka kl w.key) (hkc : kl ≤ kc) (hb : Rb h ba blen body) (hbc : blen ≤ bc) (hbl : blen ≤ 100000000) (hsz : w.n ≤ 100000000)
    {R : Sl × Int → Heap → Prop} (hk : ∀ s h', Rb h' s.a s.len (decF w size body).1 → Keep (fun _ => False) h h' → R (s, (decF w size body).2) h') :
    CallT Tryd.prog ref19_Decode_no [.agg #[.string w.id, .string w.date, .string w.scope, .string w.sig, .slice ka kl kc, .string w.pay], .slice ba blen bc, .int .i64 size] h [.sc .sl, .sc (.int .i64)] R := by
  have hcall := ref19_Decode_call (x_0 := (w.id, w.date, w.scope, w.sig, ⟨ka, kl, kc⟩, w.pay)) (x_1 := ⟨ba, blen, bc⟩) (x_2 := size) (R := R) (h := h)
  apply hcall
  have hblen := hb.len
  have hn := hsz
  unfold Wh.n at hn
  have hkl := hkey.len
  unfold ref19_Decode
  refine newB_row ?_
  intro h1 s1 r1 k1
  replace r1 : Row h1 h.size (whoRow w ka kl kc) := r1
  refine newB_row ?_
  intro h2 s2 r2 k2
  have r12 := k2.row r1 (fun h => h)
  have r12' := r12
  unfold whoRow at r12'
  rw [add_mk]
  refine ldS_row (o := 0 + 3) r12' rfl ?_
  have z1 : h1.size = h.size + 1 := s1
  -- the reader's block
  generalize hp1 : h1.size = p at *
  have gone : ∀ {h'}, Keep (fun y => p ≤ y) h2 h' → Keep (fun _ => False) h h' := fun k => ⟨by have := k.size; omega, fun b hb' _ => by
    rw [k.same b (by omega) (by omega), k2.same b (by omega) (fun h => h)]
    exact k1.same b hb' (fun h => h)⟩
  have hpb : ∀ b, blk ba b → 0 < blen → b ≠ p := fun b hb' h0 => by have := hb.lt h0 hb'; omega
  have bK : ∀ {h'}, Keep (fun y => p ≤ y) h2 h' → Rb h' ba blen body := fun k => hb.keep0 (gone k)
  have kK : ∀ {h'}, Keep (fun y => p ≤ y) h2 h' → Rb h' ka kl w.key := fun k => hkey.keep0 (gone k)
  have wK : ∀ {h'}, Keep (fun y => p ≤ y) h2 h' → Row h' h.size (whoRow w ka kl kc) := fun k => k.row r12 (by omega)
  have toP : ∀ {g g' : Heap}, Keep (· = p) g g' → Keep (fun y => p ≤ y) g g' := fun k => k.mono (fun y _ hy => by have hy' : y = p := hy; omega)
  have err : ∀ {h'} {e : Int}, Keep (fun y => p ≤ y) h2 h' → decF w size body = ([], e) → R ((⟨none, 0, 0⟩ : Sl), e) h' := fun k e => by
    have := hk ⟨none, 0, 0⟩ _ (by rw [e]; exact rb_nil _) (gone k)
    rw [e] at this
    exact this
  refine LoopT.intro (fun (t : ByteArray × Sl) h' => ∃ out n at_, Bl h' t.2.a t.2.len t.2.cap out ∧ (∀ b, blk t.2.a b → h2.size ≤ b) ∧ Keep (fun y => p ≤ y) h2 h' ∧ Rdr h' p ba blen bc at_ 0 ∧ at_ ≤ blen ∧ (body.drop at_).length < n ∧ decN w size n (bl t.1) (body.drop at_) out = decF w size body ∧ out.length + (blen - at_) ≤ blen ∧ t.1.size ≤ 64 + w.sig.size)
    (fun (t : ByteArray × Sl) h' => match cellH h' ⟨p, 1, none⟩ with | some (.int _ n) => blen - n.toNat | _ => 0) ?_ ?_
  · exact ⟨[], body.length + 1, 0, SlR.nil _ _, fun b hb' => (by obtain ⟨x, e, _⟩ := hb'; cases e), .refl _ _, r2, by omega, by simp, rfl, by simp, by show w.sig.size ≤ _; omega⟩
  · rintro ⟨last, t⟩ h3 ⟨out, n, at_, p1, p2, p3, p4, p5, p6, p7, p8, p9⟩
    replace p1 : Bl h3 t.a t.len t.cap out := p1
    replace p2 : ∀ b, blk t.a b → h2.size ≤ b := p2
    replace p7 : decN w size n (bl last) (body.drop at_) out = decF w size body := p7
    replace p9 : last.size ≤ 64 + w.sig.size := p9
    have z2 : h2.size = p + 1 := by omega
    obtain ⟨m, rfl⟩ : ∃ m, n = m + 1 := ⟨n - 1, by omega⟩
    unfold decN at p7
    have hmu : (match cellH h3 ⟨p, 1, none⟩ with | some (.int _ n) => blen - n.toNat | _ => 0) = blen - at_ := by
      have : cellH h3 ⟨p, 1, none⟩ = some (.int .i64 (at_ : Int)) := by
        have := Row.cells p4 1
        simpa using this
      rw [this]
      simp
    rw [hmu]
    have ok := piece_ok (s := body.drop at_)
    refine head_spec p4 (bK p3) hbc hpb (by omega) p5 ?_ ?_
    · intro e at' n' x h4 he hpc r4 k4
      have K4 := p3.trans' (toP k4)
      rw [hpc, if_pos (by exact he)] at p7
      unfold Rdr at r4
      simp only [add_mk]
      refine ldI_row (o := 0 + 2) r4 rfl ?_
      refine cnd_t (by simpa using he) ?_
      refine ldI_row (o := 0 + 2) r4 rfl ?_
      exact err K4 p7.symm
    · intro sz sum at' h4 r4 hat' hszl hsuml hpc k4
      have K4 := p3.trans' (toP k4)
      have r4' := r4
      unfold Rdr at r4'
      have hdl : (body.drop at').length = blen - at' := by rw [List.length_drop]; omega
      simp only [add_mk]
      refine ldI_row (o := 0 + 2) r4' rfl ?_
      refine cnd_f rfl ?_
      refine ldI_row (o := 0 + 1) r4' rfl ?_
      rw [w64_id (x := (blen : Int) - at') (by omega) (by omega)]
      refine cnd_dec (fun hgt => ?_) (fun hle => ?_)
      · rw [if_pos (by omega)] at hpc
        rw [hpc, if_pos (by decide)] at p7
        exact err K4 p7.symm
      · rw [if_neg (by omega)] at hpc
        refine ldI_row (o := 0 + 1) r4' rfl (ldI_row (o := 0 + 1) r4' rfl ?_)
        rw [w64_id (x := (at' : Int) + sz) (by omega) (by omega)]
        show lsl 1 ba bc (at' : Int) ((at' : Int) + sz) (bc : Int) _
        refine Rb.sub (bK K4) (by omega) (by omega) (by omega) (by omega) (by omega) ?_
        intro a' ra rab
        have esz : ((at' : Int) + sz - at').toNat = sz := by omega
        rw [esz, Int.toNat_natCast] at ra
        rw [esz]
        refine ldI_row (o := 0 + 1) r4' rfl ?_
        refine stC_row r4' (by simp) rfl ?_
        intro h5 s5 r5 k5
        have e5 : w64 ((at' : Int) + (sz : Int)) = ((at' + sz : Nat) : Int) := by rw [w64_id (by omega) (by omega)]; omega
        rw [e5] at r5
        replace r5 : Rdr h5 p ba blen bc (at' + sz) 0 := r5
        have K5 := K4.trans' (toP k5)
        have hde : (body.drop at').drop sz = body.drop (at' + sz) := by rw [List.drop_drop]
        rw [hde] at hpc
        generalize hda : (body.drop at').take sz = data at *
        have hdal : data.length = sz := by rw [← hda, List.length_take]; omega
        refine eat19_spec r5 (bK K5) hpb (by omega) (by omega) (by decide) ?_
        intro at6 h6 r6 hat6 heq6 k6
        have K6 := K5.trans' (toP k6)
        rw [show bl (⟨#[13, 10]⟩ : ByteArray) = crL from rfl] at r6 heq6
        have geq : (eatF (body.drop (at' + sz)) crL).2 = 0 → (eatF (body.drop (at' + sz)) crL).1 = body.drop at6 := fun e => by
          have := (eat_ok e).1
          have lc : crL.length = 2 := rfl
          have e2s : (⟨#[13, 10]⟩ : ByteArray).size = 2 := rfl
          rw [lc, List.drop_drop] at this
          rw [heq6 e, e2s]
          exact this
        unfold pz2 at hpc
        have hs6 : (body.drop at6).length = blen - at6 := by rw [List.length_drop]; omega
        -- the code behind
        refine withJ.intro (fun _ h7 => ∃ f, Rdr h7 p ba blen bc at6 f ∧ Keep (fun y => p ≤ y) h2 h7 ∧ Keep (· = p) h4 h7 ∧ (f ≠ 0 → pieceF (body.drop at_) = errP f) ∧ (f = 0 → pieceF (body.drop at_) = (sum, data, body.drop at6, 0))) ?_ ?_
        · rintro _ h7 ⟨f, r7, K7, K47, b1, b2⟩
          have K37 := k4.trans' K47
          have r7' := r7
          unfold Rdr at r7'
          refine ldI_row (o := 0 + 2) r7' rfl ?_
          refine cnd_of (fun e => ?_) (fun e => ?_)
          · have e' : f ≠ 0 := by simpa using e
            rw [b1 e', if_pos (by exact e')] at p7
            refine ldI_row (o := 0 + 2) r7' rfl ?_
            exact err K7 p7.symm
          · have e' : f = 0 := by simpa using e
            subst e'
            have hpc2 := b2 rfl
            rw [hpc2] at p7 ok
            have ok2 := ok rfl
            clear ok
            obtain ⟨q, q1, q2, q3⟩ := ok2
            replace q1 : sum.length = 64 := q1
            replace q2 : (body.drop at_).length = q + sum.length + data.length + (body.drop at6).length := q2
            rw [if_neg (by simp)] at p7
            have wr := wK K7
            unfold whoRow at wr
            refine ldS_row (o := 0) wr rfl (ldS_row (o := 0 + 1) wr rfl (ldS_row (o := 0 + 2) wr rfl (ldS_row (o := 0 + 3) wr rfl (ldL_row (o := 0 + 4) wr rfl (ldS_row (o := 0 + 5) wr rfl ?_)))))
            have ra7 : Rb h7 a' sz data := ra.keep K47 (fun h0 b hb e => hpb b (rab b hb) (by omega) e)
            refine sign19_spec (w := w) (kK K7) hkc ra7 (by omega) (by show _ + last.size ≤ _; unfold Wh.n; omega) ?_
            intro h8 k8
            have K8 := K7.trans k8 (fun _ _ h => h.elim)
            show cnd (!seq (ofL (signF w (bl last) data)) (ofL sum)) _ _
            rw [seq_bl, bl_ofL, bl_ofL]
            by_cases hsg : signF w (bl last) data = sum
            · rw [if_neg (show ¬ signF w (bl last) data ≠ sum by simpa using hsg)] at p7
              refine cnd_f (by simp [hsg]) ?_
              have nbt : ∀ b, blk t.a b → b ≠ p := fun b hb => by have := p2 b hb; omega
              have b8 : Bl h8 t.a t.len t.cap out := SlR.keep (SlR.keep p1 K37 nbt) k8 (fun _ _ h => h)
              have hlen := b8.len
              refine Rv.rd (ra7.keep0 k8) ?_
              show app [.int .u8 0] 5 1 1 t.a t.len t.cap _ sz h8 _
              refine b8.push (new := data) (by omega) hdal.symm rfl ?_
              intro a9 c9 h9 b9 k9 n9
              have N9 : ∀ b, blk a9 b → h2.size ≤ b := fun b hb => by
                rcases n9 b hb with hh | hh
                · exact p2 b hh
                · have := K8.size; omega
              have K9 : Keep (fun y => p ≤ y) h2 h9 := K8.trans k9 (fun y _ hy => by have := p2 y hy; omega)
              show cnd ((sz : Int) == 0) _ _
              refine cnd_of (fun hz => ?_) (fun hz => ?_)
              · have hz' : sz = 0 := by have := eq_of_beq hz; omega
                have hde : data = [] := List.length_eq_zero_iff.1 (by omega)
                rw [if_pos (show data = [] from hde)] at p7
                rw [hde, List.append_nil] at b9
                have hz0 : sz = 0 := hz'
                show cnd (((t.len + sz : Nat) : Int) != size) _ _
                rw [hz0] at b9 ⊢
                refine cnd_of (fun hne => ?_) (fun heq => ?_)
                · have hne' : (out.length : Int) ≠ size := by
                    rw [← hlen]
                    simpa using hne
                  rw [if_pos hne'] at p7
                  exact err K9 p7.symm
                · have heq' : (out.length : Int) = size := by
                    rw [← hlen]
                    simpa using heq
                  rw [if_neg (by simpa using heq')] at p7
                  rw [← p7] at hk
                  exact hk ⟨a9, t.len + 0, c9⟩ h9 b9.rb (gone K9)
              · have hz' : sz ≠ 0 := by have := ne_of_beq_false hz; omega
                have hde : data ≠ [] := fun e => by rw [e] at hdal; simp at hdal; omega
                rw [if_neg (show ¬ data = [] from hde)] at p7
                have r9 : Rdr h9 p ba blen bc at6 0 := by
                  refine k9.row (k8.row r7 (fun h => h)) (fun hb => ?_)
                  have := p2 p hb
                  omega
                refine ⟨⟨out ++ data, m, at6, b9, N9, K9, r9, hat6, by omega, ?_, ?_, ?_⟩, ?_⟩
                · show decN w size m (bl (ofL sum)) (body.drop at6) (out ++ data) = _
                  rw [bl_ofL]
                  exact p7
                · rw [List.length_append]
                  rw [List.length_drop] at q2
                  omega
                · show (ofL sum).size ≤ _
                  rw [ofL_size]; omega
                · have : cellH h9 ⟨p, 1, none⟩ = some (.int .i64 (at6 : Int)) := by
                    have := Row.cells r9 1
                    simpa using this
                  rw [this]
                  show blen - ((at6 : Nat) : Int).toNat < blen - at_
                  rw [List.length_drop] at q2
                  omega
            · rw [if_pos (show signF w (bl last) data ≠ sum from hsg)] at p7
              refine cnd_t (by simp [hsg]) ?_
              exact err K8 p7.symm
        · intro J hJ
          have k36 : Keep (· = p) h4 h6 := k5.trans' k6
          have r6' := r6
          unfold Rdr at r6'
          refine withJ.intro (fun (b : Bool) h7 => h7 = h6 ∧ b = decide ((eatF (body.drop (at' + sz)) crL).2 = 0 ∧ sz = 0 ∧ at6 ≠ blen)) ?_ ?_
          · rintro b h7 ⟨rfl, rfl⟩
            refine cnd_dec (fun hy => ?_) (fun hno => ?_)
            · refine stC_row r6' (by simp) rfl ?_
              intro h8 s8 r8 k8
              refine hJ _ _ ⟨308, r8, K6.trans' (toP k8), k36.trans' k8, fun _ => ?_, fun e => by cases e⟩
              rw [hpc]
              have cc : (eatF (body.drop (at' + sz)) crL).2 = 0 ∧ sz = 0 ∧ (eatF (body.drop (at' + sz)) crL).1 ≠ [] := ⟨hy.1, hy.2.1, fun e => by
                rw [geq hy.1] at e
                rw [e] at hs6
                simp at hs6
                omega⟩
              rw [if_pos cc, if_pos (by decide)]
            · have cc : ¬ ((eatF (body.drop (at' + sz)) crL).2 = 0 ∧ sz = 0 ∧ (eatF (body.drop (at' + sz)) crL).1 ≠ []) := fun hh => hno ⟨hh.1, hh.2.1, fun e => hh.2.2 (by
                rw [geq hh.1]
                exact List.drop_eq_nil_of_le (by omega))⟩
              rw [if_neg cc] at hpc
              refine hJ _ _ ⟨_, r6, K6, k36, fun e => ?_, fun e => ?_⟩
              · rw [hpc, if_pos e]
              · rw [hpc, if_neg (by simpa using e), geq e]
          · intro J2 hJ2
            refine ldI_row (o := 0 + 2) r6' rfl ?_
            refine cnd_of (fun e => ?_) (fun e => ?_)
            · have e' := eq_of_beq e
              refine cnd_of (fun e2 => ?_) (fun e2 => ?_)
              · have e2' : sz = 0 := by have := eq_of_beq e2; omega
                refine ldI_row (o := 0 + 1) r6' rfl ?_
                refine hJ2 _ _ ⟨rfl, ?_⟩
                rw [Bool.eq_iff_iff, decide_eq_true_eq, bne_iff_ne]
                constructor
                · intro hh
                  exact ⟨e', e2', fun e3 => hh (by rw [e3])⟩
                · intro hh e3
                  have e3' : ((at6 : Nat) : Int) = (blen : Int) := e3
                  exact hh.2.2 (by omega)
              · have e2' : sz ≠ 0 := by have := ne_of_beq_false e2; omega
                exact hJ2 _ _ ⟨rfl, (decide_eq_false (fun hh => e2' hh.2.1)).symm⟩
            · have e' := ne_of_beq_false e
              exact hJ2 _ _ ⟨rfl, (decide_eq_false (fun hh => e' hh.1)).symm⟩
end Chunk
end Go.Proofs.YtncffbocmpmejaaDoor
