/- The law PlanNears holds of the given program, where the arguments are of bulk at most 1048576: of what is seen of any records and cloaks, the nearest is told, in order. Condition: the bound of the second form. -/
import Derived.Test.YtnconfggojpkcaaGreatSf2
set_option linter.all false
set_option maxHeartbeats 16000000
set_option maxRecDepth 100000
namespace Go.Proofs.YtnconfggojpkcaaGreat
open Go.RowKit Go.ChangeShapes Go.WideShapes AM
theorem planNears_holds:Rows.PlanNearsUptoSaid :=
 OpenClaim.holds_of_cond 7 Tryz.f7 rfl rfl rfl rfl rfl rfl rfl ⟨rfl,rfl,rfl,rfl,rfl⟩ rfl rfl rfl rfl rfl (by kernel_rfl) Tryz.func7 (by kernel_rfl) (of_decide_eq_true (by kernel_rfl))
  (by unfold Func.isWrapper; rw [if_neg (of_decide_eq_false (by kernel_rfl))]; exact ⟨rfl,rfl⟩)
  (fun os started H enc _ F=>XK (f:=7) (fn:=Tryz.f7) (s:=Rows.planNearsSpec) (by kernel_rfl) (by kernel_rfl) rfl (by kernel_rfl) (fun t ht=>by
    have:t ∈ [32,33,70]:=ht
    simp at this
    rcases this with rfl | rfl | rfl
    all_goals exact ⟨by kernel_rfl,of_decide_eq_true (by kernel_rfl)⟩)
   (fun H ds hl=>by
    have hl:ds.length=3:=hl
    match ds,hl with
    | [a0,a1,a2],_=>rfl) os started H enc F
   (OpenSpec.witness (enc:=enc) (C:=Tryz.checked) (s:=Rows.OpenSpec.upto Rows.planNearsSpec) (k:=Rows.uptoSmall) rfl false ⟨#[],#[.agg #[.slice none 0 0,.int .i64 0,.int .i64 0,.int .i64 0,.int .i64 0,.int .i64 0,.int .i64 0,.int .i64 0,.int .i64 0,.bool false,.int .i64 0,.int .i64 0,.int .i64 0,.int .i64 0,.int .i64 0,.int .i64 0,.int .i64 0,.int .i64 0],.slice none 0 0,.slice none 0 0],[]⟩ 8 (by kernel_rfl) (by kernel_rfl) (by kernel_rfl) (x:=([.agg [.nil,.agg [.lit (.int .i64 0),.lit (.int .i64 0),.agg [.lit (.int .i64 0),.lit (.int .i64 0),.agg [.lit (.int .i64 0),.lit (.int .i64 0),.lit (.int .i64 0),.lit (.int .i64 0)],.lit (.bool false),.lit (.int .i64 0)]],.agg [.lit (.int .i64 0),.lit (.int .i64 0),.lit (.int .i64 0),.lit (.int .i64 0)],.agg [.lit (.int .i64 0),.lit (.int .i64 0)],.lit (.int .i64 0)],.nil,.nil],[],[])) (by kernel_rfl) rfl (by kernel_rfl))
   (fun W base args ds p hval hA hk=>by
    have hA:DataW.TrodAll enc Tryz.prog W 0 (fun _=>true) true [32,33,70] args.toList ds p:=hA
    obtain ⟨v1,vs1,d1,ds1,p1,q1,e1,rfl,rfl,h1,hA⟩:=trodAll_cons hA
    obtain ⟨v2,vs2,d2,ds2,p2,q2,rfl,rfl,rfl,h2,hA⟩:=trodAll_cons hA
    obtain ⟨v3,vs3,d3,ds3,p3,q3,rfl,rfl,rfl,h3,hA⟩:=trodAll_cons hA
    obtain ⟨rfl,rfl,rfl⟩:=trodAll_nil hA
    obtain rfl:args = #[v1,v2,v3]:=Array.toList_inj.1 e1
    obtain ⟨x1,r1,s1⟩:=qcg (hval 0 32 _ (by kernel_rfl) rfl) h1
    obtain ⟨x2,r2,s2⟩:=Xf (hval 1 33 _ (by kernel_rfl) rfl) h2
    obtain ⟨x3,r3,s3⟩:=KP (hval 2 70 _ (by kernel_rfl) rfl) h3
    have hb:=Yh hk
    simp only [Rows.uptoBulkAll] at hb
    have hn:=YG s1
    have l2:=Vg s2
    have l3:=Vg s3
    exact (nearsLaw x1 x2 x3 (by omega) (by omega) (by omega) (by omega)).yes (fun _ _ h=>h) (.cons r1 (.cons r2 (.cons r3 .nil)))))
end Go.Proofs.YtnconfggojpkcaaGreat
