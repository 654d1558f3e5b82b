/- Body, and ChunkBodies. -/
import Derived.Test.YtncffbocmpmejaaDoorPBodies
namespace Go.Proofs.YtncffbocmpmejaaDoor
open Go D
set_option linter.unusedVariables false
set_option linter.unusedSimpArgs false
namespace Chunk
open Hash (hexL hmacF sha256F hexB)

def streamT : ByteArray := ⟨#[83, 84, 82, 69, 65, 77, 73, 78, 71, 45, 65, 87, 83, 52, 45, 72, 77, 65, 67, 45, 83, 72, 65, 50, 53, 54, 45, 80, 65, 89, 76, 79, 65, 68]⟩
def lenT : ByteArray := ⟨#[120, 45, 97, 109, 122, 45, 100, 101, 99, 111, 100, 101, 100, 45, 99, 111, 110, 116, 101, 110, 116, 45, 108, 101, 110, 103, 116, 104]⟩
def bodyF (w : Wh) (hs : List (ByteArray × ByteArray)) (body : List UInt8) : List UInt8 × Int :=
  if w.pay ≠ streamT then (body, 0) else
  match allF lenT hs with
  | [s] => if (intF (bl s)).2 = false ∨ (intF (bl s)).1 > 1048576 then ([], 319) else decF w (intF (bl s)).1 body
  | _ => ([], 319)

def reqRow (m t : ByteArray) (ha : Option Addr) (hl hc : Nat) (ba : Option Addr) (blen bc : Nat) : List Value := [.string m, .string t, .slice ha hl hc, .slice ba blen bc]

theorem one_of {ss : List ByteArray} (h : ss.length = 1) : ∃ s, ss = [s] := by
  match ss, h with
  | [s], _ => exact ⟨s, rfl⟩
theorem bodyF_many {w : Wh} {hs : List (ByteArray × ByteArray)} {body : List UInt8} (hp : ¬ w.pay ≠ streamT) (h : (allF lenT hs).length ≠ 1) : bodyF w hs body = ([], 319) := by
  unfold bodyF
  rw [if_neg hp]
  match hh : allF lenT hs with
  | [] => rfl
  | [s] => rw [hh] at h; exact absurd rfl h
  | _ :: _ :: _ => rfl

theorem body_spec {h : Heap} {w : Wh} {ka ha ba : Option Addr} {kl kc hl hc blen bc : Nat} {m t : ByteArray} {hs : List (ByteArray × ByteArray)} {body : List UInt8} (wa : WA h w ka kl kc) (hh : HdsAt h ha hl hs) (hhl : hl ≤ 10000000) (hb : Rb h ba blen body) (hbl : blen ≤ 10000000)
    {R : Sl × Int → Heap → Prop} (hk : ∀ s h', Rb h' s.a s.len (bodyF w hs body).1 → Keep (fun _ => False) h h' → R (s, (bodyF w hs body).2) h') :
    CallT Tryd.prog chunk_Body_no [.agg #[.string w.id, .string w.date, .string w.scope, .string w.sig, .slice ka kl kc, .string w.pay], .agg #[.string m, .string t, .slice ha hl hc, .slice ba blen bc]] h [.sc .sl, .sc (.int .i64)] R := by
  have hcall := chunk_Body_call (w_0 := (w.id, w.date, w.scope, w.sig, ⟨ka, kl, kc⟩, w.pay)) (r_1 := (m, t, ⟨ha, hl, hc⟩, ⟨ba, blen, bc⟩)) (R := R) (h := h)
  apply hcall
  have hbn := hb.len
  have hn := wa.n
  unfold chunk_Body
  refine newB_row ?_
  intro h1 s1 r1 k1
  replace r1 : Row h1 h.size (whoRow w ka kl kc) := r1
  refine newB_row ?_
  intro h2 s2 r2 k2
  replace r2 : Row h2 h1.size (reqRow m t ha hl hc ba blen bc) := r2
  have r12 := k2.row r1 (fun h => h)
  have r12' := r12
  have r2' := r2
  unfold whoRow at r12'
  unfold reqRow at r2'
  have K2 := k1.trans' k2
  simp only [add_mk]
  refine ldS_row (o := 0 + 5) r12' rfl ?_
  rw [show (⟨#[83, 84, 82, 69, 65, 77, 73, 78, 71, 45, 65, 87, 83, 52, 45, 72, 77, 65, 67, 45, 83, 72, 65, 50, 53, 54, 45, 80, 65, 89, 76, 79, 65, 68]⟩ : ByteArray) = streamT from rfl, seq_dec]
  by_cases hp : w.pay = streamT
  · refine cnd_f (by simp [hp]) ?_
    have hp' : ¬ w.pay ≠ streamT := by simpa using hp
    have err : ∀ {h'}, Keep (fun _ => False) h h' → bodyF w hs body = ([], 319) → R ((⟨none, 0, 0⟩ : Sl), 319) h' := fun k e => by
      have := hk ⟨none, 0, 0⟩ _ (by rw [e]; exact rb_nil _) k
      rw [e] at this
      exact this
    refine ldL_row (o := 0 + 2) r2' rfl ?_
    have hcallA := all_spec (x0 := ⟨ha, hl, hc⟩) (name := lenT) (hh.keep0 K2) hhl (R := fun r12 h13 =>
      cnd ((r12.len : Int) != 1) (R ((⟨none, 0, 0⟩ : Sl), 319) h13) (
      idx r12.a r12.len 0 fun a14 =>
      ldS (a14.add ((0 : Int).toNat * 1)) h13 fun s15 =>
      CallT Tryd.prog enc_Int_no [.string s15] h13 [.sc (.int .i64), .sc (.bool)] fun (r16 : Int × Bool) h17 =>
      withJ (σ := Unit) (fun s18 h20 =>
      ldS ⟨h.size, 0, none⟩ h20 fun s21 =>
      ldS ⟨h.size, 0 + 1, none⟩ h20 fun s22 =>
      ldS ⟨h.size, 0 + 2, none⟩ h20 fun s23 =>
      ldS ⟨h.size, 0 + 3, none⟩ h20 fun s24 =>
      ldL ⟨h.size, 0 + 4, none⟩ h20 fun o25 l25 c25 =>
      ldS ⟨h.size, 0 + 5, none⟩ h20 fun s26 =>
      ldL ⟨h1.size, 0 + 3, none⟩ h20 fun o27 l27 c27 =>
      CallT Tryd.prog chunk_Decode_no [.agg #[.string s21, .string s22, .string s23, .string s24, .slice o25 l25 c25, .string s26], .slice o27 l27 c27, .int .i64 r16.1] h20 [.sc (.sl), .sc (.int .i64)] fun (r28 : Sl × Int) h29 =>
      R (r28.1, r28.2) h29) (fun J19 =>
      withJ (σ := Bool) (fun s30 h32 => cnd s30 (R ((⟨none, 0, 0⟩ : Sl), 319) h32) (J19 () h32)) (fun J31 =>
      cnd (!r16.2) (J31 true h17) (J31 (decide (r16.1 > 1048576)) h17)))))
    apply hcallA
    intro s h3 sb k3
    have K3 := K2.trans' k3
    have sl := sb.1
    rw [List.length_map] at sl
    refine cnd_of (fun e => ?_) (fun e => ?_)
    · refine err K3 (bodyF_many hp' ?_)
      have : (s.len : Int) ≠ 1 := by simpa using e
      omega
    · have e1 : s.len = 1 := by
        have : (s.len : Int) = 1 := by simpa using e
        omega
      obtain ⟨v, hv⟩ := one_of (ss := allF lenT hs) (by omega)
      rw [hv] at sb
      refine Rv.at sb (by omega) (by omega) (v := .string v) rfl fun x hx => ldS_at hx ?_
      refine int_spec ?_
      have hF : bodyF w hs body = if (intF (bl v)).2 = false ∨ (intF (bl v)).1 > 1048576 then ([], 319) else decF w (intF (bl v)).1 body := by
        unfold bodyF
        rw [if_neg hp', hv]
      generalize intF (bl v) = iv at hF
      obtain ⟨n, ok⟩ := iv
      replace hF : bodyF w hs body = if ok = false ∨ n > 1048576 then ([], 319) else decF w n body := hF
      refine withJ.intro (fun _ h4 => h4 = h3 ∧ ¬ (ok = false ∨ n > 1048576)) ?_ ?_
      · rintro _ h4 ⟨rfl, hno⟩
        rw [if_neg hno] at hF
        have r3 := k3.row r12' (fun h => h)
        have q3 := k3.row r2' (fun h => h)
        refine ldS_row (o := 0) r3 rfl (ldS_row (o := 0 + 1) r3 rfl (ldS_row (o := 0 + 2) r3 rfl (ldS_row (o := 0 + 3) r3 rfl (ldL_row (o := 0 + 4) r3 rfl (ldS_row (o := 0 + 5) r3 rfl (ldL_row (o := 0 + 3) q3 rfl ?_))))))
        refine decode_spec (w := w) (wa.key.keep0 K3) wa.le (hb.keep0 K3) (by omega) (by omega) ?_
        intro z h5 zb _ k5
        rw [hF] at hk
        exact hk z h5 zb (K3.trans' k5)
      · intro J hJ
        refine withJ.intro (fun (b : Bool) h4 => h4 = h3 ∧ b = decide (ok = false ∨ n > 1048576)) ?_ ?_
        · rintro b h4 ⟨rfl, rfl⟩
          refine cnd_dec (fun hy => ?_) (fun hno => hJ _ _ ⟨rfl, hno⟩)
          rw [if_pos hy] at hF
          exact err K3 hF
        · intro J2 hJ2
          cases ok with
          | false => exact cnd_t rfl (hJ2 _ _ ⟨rfl, (decide_eq_true (.inl rfl)).symm⟩)
          | true =>
            refine cnd_f rfl (hJ2 _ _ ⟨rfl, ?_⟩)
            show decide (n > 1048576) = _
            rw [Bool.eq_iff_iff, decide_eq_true_eq, decide_eq_true_eq]
            simp
  · refine cnd_t (by simp [hp]) ?_
    have hF : bodyF w hs body = (body, 0) := by unfold bodyF; rw [if_pos hp]
    rw [hF] at hk
    refine ldL_row (o := 0 + 3) r2' rfl ?_
    refine Rv.rd (hb.keep0 K2) ?_
    have bn : Bl h2 none 0 0 [] := SlR.nil _ _
    refine Bl.push bn (new := body) (by omega) hbn rfl ?_
    intro a' c' h3 q1 q2 q3
    refine hk ⟨a', 0 + blen, c'⟩ h3 (by rw [List.nil_append] at q1; exact q1.rb) (K2.trans q2 (fun y _ hy => by obtain ⟨x, e, _⟩ := hy; cases e))

theorem body19_spec {h : Heap} {w : Wh} {ka ha ba : Option Addr} {kl kc hl hc blen bc : Nat} {m t : ByteArray} {hs : List (ByteArray × ByteArray)} {body : List UInt8} (wa : WA h w ka kl kc) (hh : HdsAt h ha hl hs) (hhl : hl ≤ 10000000) (hb : Rb h ba blen body) (hbc : blen ≤ bc) (hbl : blen ≤ 10000000)
    {R : Sl × Int → Heap → Prop} (hk : ∀ s h', Rb h' s.a s.len (bodyF w hs body).1 → Keep (fun _ => False) h h' → R (s, (bodyF w hs body).2) h') :
    CallT Tryd.prog ref19_Body_no [.agg #[.string w.id, .string w.date, .string w.scope, .string w.sig, .slice ka kl kc, .string w.pay], .agg #[.string m, .string t, .slice ha hl hc, .slice ba blen bc]] h [.sc .sl, .sc (.int .i64)] R := by
  have hcall := ref19_Body_call (w_0 := (w.id, w.date, w.scope, w.sig, ⟨ka, kl, kc⟩, w.pay)) (r_1 := (m, t, ⟨ha, hl, hc⟩, ⟨ba, blen, bc⟩)) (R := R) (h := h)
  apply hcall
  have hbn := hb.len
  have hn := wa.n
  unfold ref19_Body
  refine newB_row ?_
  intro h1 s1 r1 k1
  replace r1 : Row h1 h.size (whoRow w ka kl kc) := r1
  refine newB_row ?_
  intro h2 s2 r2 k2
  replace r2 : Row h2 h1.size (reqRow m t ha hl hc ba blen bc) := r2
  have r12 := k2.row r1 (fun h => h)
  have r12' := r12
  have r2' := r2
  unfold whoRow at r12'
  unfold reqRow at r2'
  have K2 := k1.trans' k2
  simp only [add_mk]
  refine ldS_row (o := 0 + 5) r12' rfl ?_
  rw [show (⟨#[83, 84, 82, 69, 65, 77, 73, 78, 71, 45, 65, 87, 83, 52, 45, 72, 77, 65, 67, 45, 83, 72, 65, 50, 53, 54, 45, 80, 65, 89, 76, 79, 65, 68]⟩ : ByteArray) = streamT from rfl, seq_dec]
  by_cases hp : w.pay = streamT
  · refine cnd_f (by simp [hp]) ?_
    have hp' : ¬ w.pay ≠ streamT := by simpa using hp
    have err : ∀ {h'}, Keep (fun _ => False) h h' → bodyF w hs body = ([], 319) → R ((⟨none, 0, 0⟩ : Sl), 319) h' := fun k e => by
      have := hk ⟨none, 0, 0⟩ _ (by rw [e]; exact rb_nil _) k
      rw [e] at this
      exact this
    refine ldL_row (o := 0 + 2) r2' rfl ?_
    have hcallA := all16_spec (x0 := ⟨ha, hl, hc⟩) (name := lenT) (hh.keep0 K2) hhl (R := fun r8 h9 =>
      cnd ((r8.len : Int) != 1) (R ((⟨none, 0, 0⟩ : Sl), 319) h9) (
      idx r8.a r8.len 0 fun a10 =>
      ldS (a10.add ((0 : Int).toNat * 1)) h9 fun s11 =>
      CallT Tryd.prog ref1_Int_no [.string s11] h9 [.sc (.int .i64), .sc (.bool)] fun (r12 : Int × Bool) h13 =>
      withJ (σ := Unit) (fun s14 h16 =>
      ldS ⟨h.size, 0, none⟩ h16 fun s17 =>
      ldS ⟨h.size, 0 + 1, none⟩ h16 fun s18 =>
      ldS ⟨h.size, 0 + 2, none⟩ h16 fun s19 =>
      ldS ⟨h.size, 0 + 3, none⟩ h16 fun s20 =>
      ldL ⟨h.size, 0 + 4, none⟩ h16 fun o21 l21 c21 =>
      ldS ⟨h.size, 0 + 5, none⟩ h16 fun s22 =>
      ldL ⟨h1.size, 0 + 3, none⟩ h16 fun o23 l23 c23 =>
      CallT Tryd.prog ref19_Decode_no [.agg #[.string s17, .string s18, .string s19, .string s20, .slice o21 l21 c21, .string s22], .slice o23 l23 c23, .int .i64 r12.1] h16 [.sc (.sl), .sc (.int .i64)] fun (r24 : Sl × Int) h25 =>
      R (r24.1, r24.2) h25) (fun J15 =>
      withJ (σ := Bool) (fun s26 h28 => cnd s26 (R ((⟨none, 0, 0⟩ : Sl), 319) h28) (J15 () h28)) (fun J27 =>
      cnd (!r12.2) (J27 true h13) (J27 (decide (r12.1 > 1048576)) h13)))))
    apply hcallA
    intro s h3 sb k3
    have K3 := K2.trans' k3
    have sl := sb.1
    rw [List.length_map] at sl
    refine cnd_of (fun e => ?_) (fun e => ?_)
    · refine err K3 (bodyF_many hp' ?_)
      have : (s.len : Int) ≠ 1 := by simpa using e
      omega
    · have e1 : s.len = 1 := by
        have : (s.len : Int) = 1 := by simpa using e
        omega
      obtain ⟨v, hv⟩ := one_of (ss := allF lenT hs) (by omega)
      rw [hv] at sb
      refine Rv.at sb (by omega) (by omega) (v := .string v) rfl fun x hx => ldS_at hx ?_
      refine int1_spec ?_
      have hF : bodyF w hs body = if (intF (bl v)).2 = false ∨ (intF (bl v)).1 > 1048576 then ([], 319) else decF w (intF (bl v)).1 body := by
        unfold bodyF
        rw [if_neg hp', hv]
      generalize intF (bl v) = iv at hF
      obtain ⟨n, ok⟩ := iv
      replace hF : bodyF w hs body = if ok = false ∨ n > 1048576 then ([], 319) else decF w n body := hF
      refine withJ.intro (fun _ h4 => h4 = h3 ∧ ¬ (ok = false ∨ n > 1048576)) ?_ ?_
      · rintro _ h4 ⟨rfl, hno⟩
        rw [if_neg hno] at hF
        have r3 := k3.row r12' (fun h => h)
        have q3 := k3.row r2' (fun h => h)
        refine ldS_row (o := 0) r3 rfl (ldS_row (o := 0 + 1) r3 rfl (ldS_row (o := 0 + 2) r3 rfl (ldS_row (o := 0 + 3) r3 rfl (ldL_row (o := 0 + 4) r3 rfl (ldS_row (o := 0 + 5) r3 rfl (ldL_row (o := 0 + 3) q3 rfl ?_))))))
        refine decode19_spec (w := w) (wa.key.keep0 K3) wa.le (hb.keep0 K3) hbc (by omega) (by omega) ?_
        intro z h5 zb k5
        rw [hF] at hk
        exact hk z h5 zb (K3.trans' k5)
      · intro J hJ
        refine withJ.intro (fun (b : Bool) h4 => h4 = h3 ∧ b = decide (ok = false ∨ n > 1048576)) ?_ ?_
        · rintro b h4 ⟨rfl, rfl⟩
          refine cnd_dec (fun hy => ?_) (fun hno => hJ _ _ ⟨rfl, hno⟩)
          rw [if_pos hy] at hF
          exact err K3 hF
        · intro J2 hJ2
          cases ok with
          | false => exact cnd_t rfl (hJ2 _ _ ⟨rfl, (decide_eq_true (.inl rfl)).symm⟩)
          | true =>
            refine cnd_f rfl (hJ2 _ _ ⟨rfl, ?_⟩)
            show decide (n > 1048576) = _
            rw [Bool.eq_iff_iff, decide_eq_true_eq, decide_eq_true_eq]
            simp
  · refine cnd_t (by simp [hp]) ?_
    have hF : bodyF w hs body = (body, 0) := by unfold bodyF; rw [if_pos hp]
    rw [hF] at hk
    refine ldL_row (o := 0 + 3) r2' rfl ?_
    exact hk ⟨ba, blen, bc⟩ h2 (hb.keep0 K2) K2

theorem ldQ {h : Heap} {p : Nat} {m t : ByteArray} {ha ba : Option Addr} {hl hc blen bc : Nat} {K : ByteArray → ByteArray → Option Addr → Nat → Nat → Option Addr → Nat → Nat → Prop} (r : Row h p (reqRow m t ha hl hc ba blen bc)) (hk : K m t ha hl hc ba blen bc) :
    ldS ⟨p, 0, none⟩ h fun s6 => ldS ((⟨p, 0, none⟩ : Addr).add 1) h fun s7 => ldL ((⟨p, 0, none⟩ : Addr).add 2) h fun o10 l10 c10 => ldL ((⟨p, 0, none⟩ : Addr).add 3) h fun o11 l11 c11 => K s6 s7 o10 l10 c10 o11 l11 c11 := by
  simp only [add_mk]
  unfold reqRow at r
  exact ldS_row (o := 0) r rfl (ldS_row (o := 0 + 1) r rfl (ldL_row (o := 0 + 2) r rfl (ldL_row (o := 0 + 3) r rfl hk)))

theorem chunkBodies_spec {h : Heap} {w : Wh} {ka ha ba : Option Addr} {kl kc hl hc blen bc : Nat} {m t : ByteArray} {hs : List (ByteArray × ByteArray)} {body : List UInt8} (wa : WA h w ka kl kc) (hh : HdsAt h ha hl hs) (hhl : hl ≤ 10000000) (hb : Rb h ba blen body) (hbc : blen ≤ bc) (hbl : blen ≤ 10000000)
    {R : Bool → Heap → Prop} (hR : ∀ h', Keep (fun _ => False) h h' → R true h') :
    CallT Tryd.prog 8 [.agg #[.string w.id, .string w.date, .string w.scope, .string w.sig, .slice ka kl kc, .string w.pay], .agg #[.string m, .string t, .slice ha hl hc, .slice ba blen bc]] h [.sc .bool] R := by
  have hcall := law19_ChunkBodies_call (w_0 := (w.id, w.date, w.scope, w.sig, ⟨ka, kl, kc⟩, w.pay)) (r_1 := (m, t, ⟨ha, hl, hc⟩, ⟨ba, blen, bc⟩)) (R := R) (h := h)
  apply hcall
  unfold law19_ChunkBodies
  refine newB_row ?_
  intro h1 s1 r1 k1
  replace r1 : Row h1 h.size (whoRow w ka kl kc) := r1
  refine newB_row ?_
  intro h2 s2 r2 k2
  replace r2 : Row h2 h1.size (reqRow m t ha hl hc ba blen bc) := r2
  have r12 := k2.row r1 (fun h => h)
  have K2 := k1.trans' k2
  have waK : ∀ {h'}, Keep (fun _ => False) h h' → WA h' w ka kl kc := fun k => ⟨wa.key.keep0 k, wa.le, wa.n⟩
  refine ldW r12 (ldQ r2 ?_)
  refine body_spec (waK K2) (hh.keep0 K2) hhl (hb.keep0 K2) hbl ?_
  intro x h3 xb k3
  have r13 := k3.row r12 (fun h => h)
  have r3 := k3.row r2 (fun h => h)
  have K3 := K2.trans' k3
  refine ldW r13 (ldQ r3 ?_)
  refine to_spec ?_
  intro h4 k4
  have K4 := K3.trans' k4
  refine ⟨ldQ (k4.row r3 (fun h => h)) rfl, ?_⟩
  refine body19_spec (waK K4) (hh.keep0 K4) hhl (hb.keep0 K4) hbc hbl ?_
  intro y h5 yb k5
  have K5 := K4.trans' k5
  refine withJ.intro (fun (b : Bool) h' => b = true ∧ Keep (fun _ => False) h h') ?_ ?_
  · rintro b h' ⟨rfl, k⟩
    exact hR h' k
  · intro J hJ
    refine Rb.str (bs := (bodyF w hs body).1) (xb.keep0 (k4.trans' k5)) ?_
    refine Rb.str (bs := (bodyF w hs body).1) yb ?_
    refine cnd_t (seq_self _) (cnd_t (by simp) ?_)
    exact awake_spec fun h8 k8 => hJ _ _ ⟨rfl, K5.trans' k8⟩

/-! ### requests that came in -/
def InReq : RP := InAgg 4 [(0, 1, InStr), (1, 1, InStr), (2, 1, InSl 2 (InAgg 2 [(0, 1, InStr), (1, 1, InStr)])), (3, 1, InSl 1 (InInt .u8))]
def hdsAt (h : Heap) (a : Option Addr) (l : Nat) : List (ByteArray × ByteArray) := (List.range l).map fun i => match a with
  | some x => (match cellH h (x.add (i * 2)), cellH h ((x.add (i * 2)).add 1) with | some (.string n), some (.string v) => (n, v) | _, _ => (⟨#[]⟩, ⟨#[]⟩))
  | none => (⟨#[]⟩, ⟨#[]⟩)
theorem hds_of {h : Heap} {a : Option Addr} {l c n : Nat} (hs : InSl 2 (InAgg 2 [(0, 1, InStr), (1, 1, InStr)]) h n [.slice a l c]) : HdsAt h a l (hdsAt h a l) ∧ l ≤ c ∧ c ≤ n := by
  rcases hs with h1 | ⟨x, l', c', h1, h2, h3, h4, h5⟩
  · injection h1 with h1
    injection h1 with h1 h2 h3
    subst h1 h2 h3
    exact ⟨⟨by simp [hdsAt], fun i v hv => by simp [hdsAt] at hv⟩, Nat.le_refl _, by omega⟩
  · injection h1 with h1
    injection h1 with e1 e2 e3
    subst e1 e2 e3
    refine ⟨⟨by simp [hdsAt], fun i p hp => ?_⟩, h2, by omega⟩
    have hi : i < l := by
      have := (List.getElem?_eq_some_iff.1 hp).1
      simpa [hdsAt] using this
    obtain ⟨r, b, g1, _, g2, g3, g4⟩ := h5 i (by omega)
    obtain ⟨b0, _, s0, f0, _⟩ := g4 _ (List.mem_cons_self ..)
    obtain ⟨b1, _, s1, f1, _⟩ := g4 _ (List.mem_cons_of_mem _ (List.mem_cons_self ..))
    match r, g1, f0, f1 with
    | [y0, y1], _, f0, f1 =>
      simp at f0 f1
      subst f0 f1
      have w0 := g2 0 (by omega)
      have w1 := g2 1 (by omega)
      rw [add_zero] at w0
      have w0' : cellH h (x.add (i * 2)) = some (.string s0) := w0
      have w1' : cellH h ((x.add (i * 2)).add 1) = some (.string s1) := w1
      unfold hdsAt at hp
      rw [List.getElem?_map, List.getElem?_range hi] at hp
      simp only [Option.map_some, w0', w1'] at hp
      injection hp with hp
      subst hp
      exact ⟨x, rfl, w0', w1'⟩

theorem req_of {h : Heap} {n : Nat} {cs : List Value} (hs : InReq h n cs) (hn : n ≤ 1048576) : ∃ m t ha hl hc ba blen bc hds body, cs = reqRow m t ha hl hc ba blen bc ∧ HdsAt h ha hl hds ∧ hl ≤ 10000000 ∧ Rb h ba blen body ∧ blen ≤ bc ∧ blen ≤ 10000000 := by
  obtain ⟨h0, h1⟩ := hs
  match cs, h0 with
  | [v0, v1, v2, v3], _ =>
    obtain ⟨b0, l0, s0, e0, _, m0⟩ := h1 _ (List.mem_cons_self ..)
    obtain ⟨b1, l1, s1, e1, _, m1⟩ := h1 _ (List.mem_cons_of_mem _ (List.mem_cons_self ..))
    obtain ⟨b2, l2, f2⟩ := h1 (2, 1, InSl 2 (InAgg 2 [(0, 1, InStr), (1, 1, InStr)])) (by simp)
    obtain ⟨b3, l3, f3⟩ := h1 (3, 1, InSl 1 (InInt .u8)) (by simp)
    simp at e0 e1
    subst e0 e1
    have f2' : InSl 2 (InAgg 2 [(0, 1, InStr), (1, 1, InStr)]) h b2 [v2] := f2
    have f3' : InSl 1 (InInt .u8) h b3 [v3] := f3
    obtain ⟨ha, hl, hc, rfl⟩ : ∃ a l c, v2 = .slice a l c := by
      rcases f2' with e | ⟨x, l, c, e, _⟩
      · exact ⟨_, _, _, List.singleton_inj.1 e⟩
      · exact ⟨_, _, _, List.singleton_inj.1 e⟩
    obtain ⟨ba, blen, bc, rfl⟩ : ∃ a l c, v3 = .slice a l c := by
      rcases f3' with e | ⟨x, l, c, e, _⟩
      · exact ⟨_, _, _, List.singleton_inj.1 e⟩
      · exact ⟨_, _, _, List.singleton_inj.1 e⟩
    obtain ⟨k1, k2, k3⟩ := bytes_of f3'
    obtain ⟨q1, q2, q3⟩ := hds_of f2'
    exact ⟨s0, s1, ha, hl, hc, ba, blen, bc, _, _, rfl, q1, by omega, k1, k2, by omega⟩
end Chunk
end Go.Proofs.YtncffbocmpmejaaDoor
