/-
  The law OutboxNone answers true, and the arguments read as before: for every input of bulk 1048576 at the most.
-/
import Derived.Test.YtljfaogegcidgaaGreatDoorOutRow
import Derived.LaidLaws
set_option maxRecDepth 1000000
namespace Go.Proofs.YtljfaogegcidgaaGreatDoor.outNone
open Go Go.ChangeShapes Go.WideShapes Go.ChangeAt Go.RowKit

theorem own : ownKnob Tryz.prog.godebug = none := by kernel_rfl
theorem plain23 : Dv.plainT Tryz.prog 3 23 = true := by kernel_rfl
theorem plain25 : Dv.plainT Tryz.prog 3 25 = true := by kernel_rfl

theorem bulk_le {H : Type} {d0 d1 : DataW H} {q a b : Int} {s1 s2 s3 s4 s5 : ByteArray}
    (h1 : d1 = .agg [.lit (.int .i64 q), .lit (.string s1.data.toList), .lit (.string s2.data.toList), .lit (.string s3.data.toList), .lit (.string s4.data.toList), .lit (.string s5.data.toList), .lit (.int .i64 a), .lit (.int .i64 b)])
    (hk : Rows.uptoSmall H ([d0, d1] ++ []) = true) : s1.size ≤ 1048576 ∧ s2.size ≤ 1048576 := by
  have h := of_decide_eq_true hk
  subst h1
  simp only [List.append_nil, Rows.uptoBulkAll, Rows.uptoBulk, Array.length_toList] at h
  have e1 : s1.data.size = s1.size := rfl
  have e2 : s2.data.size = s2.size := rfl
  omega

theorem contract (H : Type) (enc : TypeId × Value → H) (W : World) (base : Nat) (args : Array Value) (ds gs : List (DataW H)) (before : List MemPlace)
    (hval : ∀ (j : Nat) t v, Tryz.f3.params[j]? = some t → args[j]? = some v → Value.okWide Tryz.prog W .any base t v)
    (hW : DataW.Whole enc Tryz.prog Tryz.f3.params.toList Rows.outboxNoneSpec.vars false W args.toList ds gs before) (hk : Rows.uptoSmall H (ds ++ gs) = true) (hsh : W.ShapedOpen Tryz.prog) :
    Calls Tryz.prog 3 args W fun e W' => ∃ v, e = .returned v ∧ Rows.outboxNoneSpec.post enc Tryz.prog Tryz.f3 false true false false W args v W' := by
  have hW' := hW
  obtain ⟨p, q, hA0, hV, rfl, hfz, hnd⟩ := hW
  have hA : DataW.TrodAll enc Tryz.prog W 0 (fun _ => true) true Tryz.f3.params.toList args.toList ds p := hA0
  rw [Tryz.params3] at hA hval
  obtain ⟨v0, vs0, d0, ds0, p0, q0, hargs, rfl, rfl, h0, r0⟩ := trodAll_cons hA
  obtain ⟨v1, vs1, d1, ds1, p1, q1, rfl, rfl, rfl, h1, r1⟩ := trodAll_cons r0
  obtain ⟨rfl, rfl, rfl⟩ := trodAll_nil r1
  obtain rfl : args = #[v0, v1] := by cases args; simp_all
  obtain ⟨rfl, rfl⟩ := trodVars_none hV
  have hv0 := hval 0 23 v0 rfl rfl
  have hv1 := hval 1 25 v1 rfl rfl
  obtain ⟨a0, a1, y0, y1, n, rfl, -, -, g0, g1⟩ := Go.Joins.open_agg2 Tryz.underlying23 (by kernel_rfl) (by kernel_rfl) hv0 h0
  obtain ⟨t1, e1, -, _⟩ := DataW.trod_string Tryz.underlying9 g0
  obtain ⟨t2, e2, -, _⟩ := DataW.trod_string Tryz.underlying9 g1
  obtain rfl := (List.cons.inj e1).1
  obtain rfl := (List.cons.inj e2).1
  obtain ⟨sq, s1, s2, s3, s4, s5, ha, hb, rfl, hd1⟩ := open_packet hv1 h1
  obtain ⟨b1, b2⟩ := bulk_le hd1 hk
  have f0 : ∀ (W2 : World) (b : Nat) (sp : Nat → Bool) (hd : Bool), p0 = [] ∧ DataW.Trod enc Tryz.prog W2 b sp hd 23 (.agg #[.string t1, .string t2]) d0 [] := fun W2 b sp hd => by
    obtain ⟨fuel, hf⟩ := h0
    obtain ⟨k1, k2⟩ := Dv.plain_trod (w' := W2) (b' := b) (sp' := sp) (hd' := hd) 3 23 fuel _ _ plain23 hf
    have k1 : p0 = [] := k1
    subst k1
    exact ⟨rfl, fuel, k2⟩
  have f1 : ∀ (W2 : World) (b : Nat) (sp : Nat → Bool) (hd : Bool), p1 = [] ∧ DataW.Trod enc Tryz.prog W2 b sp hd 25 (.agg #[.int .i64 sq, .string s1, .string s2, .string s3, .string s4, .string s5, .int .i64 ha, .int .i64 hb]) d1 [] := fun W2 b sp hd => by
    obtain ⟨fuel, hf⟩ := h1
    obtain ⟨k1, k2⟩ := Dv.plain_trod (w' := W2) (b' := b) (sp' := sp) (hd' := hd) 3 25 fuel _ _ plain25 hf
    have k1 : p1 = [] := k1
    subst k1
    exact ⟨rfl, fuel, k2⟩
  obtain rfl := (f0 W 0 (fun _ => true) true).1
  obtain rfl := (f1 W 0 (fun _ => true) true).1
  refine (outboxNone_any sq ha hb t1 t2 s1 s2 s3 s4 s5 W b1 b2 hsh).mono fun e W' ⟨he, hg⟩ => ?_
  subst he
  refine ⟨_, rfl, post_flat (ds := [d0, d1]) (gs := []) hW' (fun _ _ _ => trodAll_cons_mk (shut_bool Tryz.underlying4 _) trodAll_mk0) (fun sp => ?_) (fun _ => rfl) hg (ok_one (by kernel_rfl) rfl (okWide_bool_mk Tryz.underlying4 _))⟩
  have := trodAll_cons_mk (f0 W' 0 sp true).2 (trodAll_cons_mk (f1 W' 0 sp true).2 trodAll_mk0)
  rw [Tryz.params3]
  exact this

end Go.Proofs.YtljfaogegcidgaaGreatDoor.outNone
