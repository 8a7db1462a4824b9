import Derived.Test.YtknchlpcpgflkaaGreatDoorKGBP
import Derived.Test.YtknchlpcpgflkaaGreatDoorKGAU
set_option maxRecDepth 100000
set_option maxHeartbeats 16000000
namespace Go.Proofs.YtknchlpcpgflkaaGreatDoor.Lim
open Go.Proofs.YtknchlpcpgflkaaGreatDoor
open Go.RowKit Go.Shelf
def firstS (p:Int×Int):Int×Int:=if p.2=0∧isB p.1=true then (p.1,0) else (0,10)
theorem nthS_front (l:List Int) (x:Int):∀ k,nthS l (k+1) x=nthS l k (nthS l 1 x)
 | 0=>rfl
 | k+1=>by
  show (if isB (nthS l (k+1) x)=true then fromS l (nthS l (k+1) x+1) else nthS l (k+1) x)=if isB (nthS l k (nthS l 1 x))=true then fromS l (nthS l k (nthS l 1 x)+1) else nthS l k (nthS l 1 x);rw [nthS_front l x k]
theorem nthS_one {l:List Int} {x:Int} (h:isB x=true):nthS l 1 x=fromS l (x+1):=by
 show (if isB x=true then fromS l (x+1) else x)=_;rw [if_pos h]
theorem nthS_out {l:List Int} {x:Int} (h:isB x=false):∀ k,nthS l k x=x
 | 0=>rfl
 | k+1=>by
  show (if isB (nthS l k x)=true then fromS l (nthS l k x+1) else nthS l k x)=x;rw [nthS_out h k,h,if_neg (by simp)]
theorem nthS_open {l:List Int} {x:Int} {k:Nat} (h:isB x=true) (h2:opB l (x+1)=true):nthS l (k+1) x=nthS l k (x+1):=by
 rw [nthS_front,nthS_one h,fromS_here h2]
theorem nthS_shut {l:List Int} {x:Int} {k:Nat} (h:isB x=true) (h1:isB (x+1)=true) (h2:opB l (x+1)=false):nthS l (k+1) x=nthS l (k+1) (x+1):=by
 rw [nthS_front,nthS_front l (x+1),nthS_one h,nthS_one h1,fromS_on h1 h2]
theorem nthS_over {l:List Int} {k:Nat} : nthS l (k+1) 1000000=1000001:=by
 have h:isB (1000001:Int)=false:=by decide
 rw [nthS_front,nthS_one (by decide),show (1000000:Int)+1=1000001 by omega,fromS_eq,if_neg (fun c=>by rw [h] at c;cases c.1),nthS_out h]
theorem monS_first {y m d M:Int} (hv:Vd y m d) (_hM:0≤M) :
 firstS (monS y m d M)=if 9999<y+(m - 1+M) / 12 then (0,10) else dayS (y+(m - 1+M) / 12) ((m - 1+M) % 12+1) (min d (ml (y+(m - 1+M) / 12) ((m - 1+M) % 12+1))):=by
 obtain ⟨y1,y2,m1,m2,d1,d2⟩:=hv;have e1:(M+(12*y+m - 1)) / 12=y+(m - 1+M) / 12:=by omega
 have e2:(M+(12*y+m - 1)) % 12=(m - 1+M) % 12:=by omega
 unfold monS;rw [e1,e2];by_cases hc:9999<y+(m - 1+M) / 12
 · rw [if_pos hc];rfl
 · rw [if_neg hc]
   have hml:=ml_bd (y+(m - 1+M) / 12) ((m - 1+M) % 12+1);generalize hY:y+(m - 1+M) / 12=Y at *;generalize hMM:(m - 1+M) % 12+1=K at *;generalize hD:min d (ml Y K)=D;by_cases h:(dayS Y K D).2=0
   · obtain ⟨h1,h2,h3,h4⟩:=dayS_ok h
     unfold firstS;rw [if_pos ⟨h,(isB_iff _).2 (by rw [h2];exact ⟨h3,h4⟩)⟩];exact Prod.ext rfl h.symm
   · unfold firstS
     rw [if_neg (fun c=>h c.1)];unfold dayS at h ⊢;have hK:1≤K∧K≤12:=by omega
     have hDD:1≤D∧D≤ml Y K:=by omega
     rw [if_neg (by omega)] at h ⊢
     split
     · rfl
     · rename_i h5
       rw [if_neg h5] at h
       split
       · rfl
       · rename_i h6;rw [if_neg h6] at h;exact absurd rfl h
theorem first_mon (w:World) (day n u M y m d:Int) (C:Option Addr) (cl:Nat) (l:List Int) (r1 r2:Int) (hv:Vd y m d) (hnum:num y m d=day) (d1:day≤1000000) (hn:0≤n) (hn1:n≤1000000) (hu:u=3∧M=n∨u=4∧M=12*n) (hr:firstS (monS y m d M)=(r1,r2)) :
 Calls Tryz.prog 171 #[.int .i64 day,.agg #[.int .i64 n,.int .i64 u],.slice C l.length cl] w fun e w'=>e = .returned (.tuple #[.int .i64 r1,.int .i64 r2])∧Below w.heap.size w w':=by
 have hM0:0≤M∧M≤12000000:=by omega
 rw [monS_first hv hM0.1] at hr;have hv':=hv;obtain ⟨y1,y2,m1,m2,e1,e2⟩:=hv';have hdt:=fun W=>rDate_yes W y m d hv (by rw [hnum];exact d1);rw [hnum] at hdt;have hmb:=ml_bd y m;obtain ⟨Y,hY⟩:∃ Y,y+(m - 1+M) / 12=Y:=⟨_,rfl⟩;obtain ⟨K,hK⟩:∃ K,(m - 1+M) % 12+1=K:=⟨_,rfl⟩;rw [hY,hK] at hr;have hKb:1≤K∧K≤12:=by omega
 have hYb:1600≤Y∧Y≤1100000:=by omega
 obtain ⟨x,hx⟩:∃ x,ml Y K=x:=⟨_,rfl⟩;have hxb:=ml_bd Y K;have hle:=fun W=>rLength_any W Y K hKb.1 hKb.2;rw [hx] at hr hxb hle;obtain ⟨z,hz⟩:∃ z,z=min d x:=⟨_,rfl⟩;rw [← hz] at hr;have rm:=fun ts ty W=>run_min2 (P:=Tryz.prog) d x z hz ts ty W;have f1:(m - 1+M).tdiv 12=(m - 1+M) / 12:=Int.tdiv_eq_ediv_of_nonneg (by omega);have f2:(m - 1+M).tmod 12=(m - 1+M) % 12:=Int.tmod_eq_emod_of_nonneg (by omega);have hdb:0≤(m - 1+M) / 12∧(m - 1+M) / 12≤1000001:=by omega
 have hrb:0≤(m - 1+M) % 12∧(m - 1+M) % 12≤11:=by omega
 have HDT:=hd_ hdt;have HLE:=hd_ hle;have HR:=hd_ hr;have HF1:=hd_ f1;have HF2:=hd_ f2;have HYY:=hd_ hY;have HKK:=hd_ hK;have HRM:=hd_ rm;clear hdt hle hr hz hx hv f1 f2 hY hK rm;clear hdb hrb;have hb:=(Below.refl w.heap.size w).alloc (Nat.le_refl _) (.cells #[.int .i64 n,.int .i64 u] 41);have k0:=Blk.new w 41 #[.int .i64 n,.int .i64 u];obtain ⟨t0,t1,-⟩:=k0.all;rcases hu with ⟨rfl,rfl⟩ | ⟨rfl,rfl⟩
 all_goals
  go_enter Tryz.func171,Tryz.ntmps171
  go_wp2_with fail
  refine (HDT.out _).mono ?_;rintro e w1 ⟨rfl,b⟩;replace hb:=hb.trans (b.mono hb.size);clear b t0 t1 k0;have f1:=HF1.out;have f2:=HF2.out;go_upto_region 23 with fail
  first | rw [HYY.out,HKK.out] | rw [HYY.out,show (m - 1) % 12+1=K from by have:=HKK.out;omega]
  clear f1 f2;have rm:=HRM.out;by_cases hc:9999<Y
  · have dc:decide (9999<Y)=true:=decide_eq_true hc
    have hr:=HR.out;rw [if_pos hc] at hr;injection hr with h1 h2;subst h1 h2;clear HR;go_wp2
    go_ret2
    exact ⟨rfl,hb⟩
  · have dc:decide (9999<Y)=false:=decide_eq_false hc
    have hr:=HR.out;rw [if_neg hc] at hr;have HR2:=hd_ hr;clear HR hr;go_wp2_with fail
    refine (HLE.out _).mono ?_;rintro e w2 ⟨rfl,b⟩;replace hb:=hb.trans (b.mono hb.size);clear b;go_wp2_with fail
    have hday:=rDay_any w2 Y K z;rw [HR2.out] at hday;refine hday.mono ?_;rintro e w3 ⟨rfl,b⟩;replace hb:=hb.trans (b.mono hb.size);clear b hday;go_wp2
    go_ret2
    exact ⟨rfl,hb⟩
theorem first_work (w:World) (day n:Int) (B:Nat) (C:Option Addr) (cl:Nat) (l:List Int) (hA:IntsAt w B C l) (hB:B≤w.heap.size) (hll:l.length≤4611686018427387904) (hd:isB day=true) (hn:0≤n) (hn1:n≤1000000) (r1 r2:Int) (hr:firstS (nthS l n.toNat day,0)=(r1,r2)) :
 Calls Tryz.prog 171 #[.int .i64 day,.agg #[.int .i64 n,.int .i64 5],.slice C l.length cl] w fun e w'=>e = .returned (.tuple #[.int .i64 r1,.int .i64 r2])∧Below w.heap.size w w':=by
 obtain ⟨d0,d1⟩:=(isB_iff day).1 hd;have HA:=hd_ hA;have HR:=hd_ hr;clear hA hr hd;have hb:=(Below.refl w.heap.size w).alloc (Nat.le_refl _) (.cells #[.int .i64 n,.int .i64 5] 41);have k0:=Blk.new w 41 #[.int .i64 n,.int .i64 5];obtain ⟨t0,t1,-⟩:=k0.all;go_enter Tryz.func171,Tryz.ntmps171
 go_wp2_with fail
 clear t0 t1;go_loopw [0,9] (fun dv v wr=>∃ (x c:Int),0≤x∧x≤1000000∧0≤c∧c≤n∧dv = .int .i64 x∧v = .int .i64 c∧Hid (nthS l (n - c).toNat x=nthS l n.toNat day)∧Blk wr w.heap.size 41 #[.int .i64 n,.int .i64 5]∧Below w.heap.size w wr) (fun dv _ _=>(1000001 - intOf dv).toNat)
 case atStart=>exact ⟨day,0,d0,d1,by omega,hn,rfl,rfl,hd_ (by rw [Int.sub_zero]),k0,hb⟩
 case round=>
  clear hb k0;obtain ⟨x,c,x0,x1,c0,c1,rfl,rfl,hx,k0,hb⟩:=hrel;obtain ⟨t0,t1,-⟩:=k0.all;by_cases hlt:c<n
  · obtain ⟨k,hk⟩:∃ k:Nat,(n - c).toNat=k+1:=⟨(n - c).toNat - 1,by omega⟩
    have hk2:(n - (c+1)).toNat=k:=by omega
    have hX:=hx.out;rw [hk] at hX;by_cases ho:1000000<x+1
    · have dc:decide (1000000<x+1)=true:=decide_eq_true ho
      have e1:x=1000000:=by omega
      have hr:=HR.out;rw [← hX,e1,nthS_over] at hr;have h5:isB (1000001:Int)=false:=by decide
      unfold firstS at hr;rw [if_neg (fun hh=>by rw [h5] at hh;cases hh.2)] at hr;injection hr with h1 h2;subst h1 h2;clear hX e1 h5;go_wp2
      go_ret2
      exact ⟨rfl,hb⟩
    · have dc:decide (1000000<x+1)=false:=decide_eq_false ho
      have hwk:=rWork_any wr B C l cl (HA.out.below (hb.mono hB)) hll (x+1);have hbx:isB x=true:=(isB_iff x).2 ⟨x0,x1⟩;have hbx1:isB (x+1)=true:=(isB_iff (x+1)).2 ⟨by omega,by omega⟩
      cases hop:opB l (x+1) with
      | true=>
       rw [hop] at hwk;rw [nthS_open hbx hop] at hX;have HX:=hd_ hX;have HWK:=hd_ hwk;clear hX hwk hbx hbx1 hop hx;go_wp2_with fail
       refine HWK.out.mono ?_;rintro e w2 ⟨rfl,rfl⟩;go_wp2
       go_roundw
       case rel=>exact ⟨x+1,c+1,by omega,by omega,by omega,by omega,by go_num,by go_num,hd_ (by rw [hk2];exact HX.out),k0,hb⟩
       case measure=>simp [intOf];omega
      | false=>
       rw [hop] at hwk;rw [nthS_shut hbx hbx1 hop] at hX;have HX:=hd_ hX;have HWK:=hd_ hwk;clear hX hwk hbx hbx1 hop hx;go_wp2_with fail
       refine HWK.out.mono ?_;rintro e w2 ⟨rfl,rfl⟩;go_wp2
       go_roundw
       case rel=>exact ⟨x+1,c,by omega,by omega,by omega,by omega,by go_num,by go_num,hd_ (by rw [hk];exact HX.out),k0,hb⟩
       case measure=>simp [intOf];omega
  · have hX:=hx.out
    rw [show (n - c).toNat=0 by omega] at hX;have hX:x=nthS l n.toNat day:=hX;have hr:=HR.out;unfold firstS at hr;rw [← hX,if_pos ⟨rfl,(isB_iff _).2 ⟨x0,x1⟩⟩] at hr;injection hr with h1 h2;subst h1 h2;have dc:decide (1000000<x)=false:=decide_eq_false (by omega);clear hX hx HR;go_wp2
    go_ret2
    exact ⟨rfl,hb⟩
theorem rFirst_any (w:World) (day n u:Int) (B:Nat) (C:Option Addr) (cl:Nat) (l:List Int) (hA:IntsAt w B C l) (hB:B≤w.heap.size) (hll:l.length≤4611686018427387904) (hd:isB day=true) (hu:1≤u) (hu5:u≤5) (hn:0≤n) (hn1:n≤1000000) (r1 r2:Int)
 (hr:firstS (stepS l day n u (ymd day).1 (ymd day).2.1 (ymd day).2.2)=(r1,r2)) :
 Calls Tryz.prog 171 #[.int .i64 day,.agg #[.int .i64 n,.int .i64 u],.slice C l.length cl] w fun e w'=>e = .returned (.tuple #[.int .i64 r1,.int .i64 r2])∧Below w.heap.size w w':=by
 obtain ⟨d0,d1⟩:=(isB_iff day).1 hd;have hb:=fun u:Int=>(Below.refl w.heap.size w).alloc (Nat.le_refl _) (.cells #[.int .i64 n,.int .i64 u] 41);have hcase:u=1∨u=2∨u=3∨u=4∨u=5:=by omega
 rcases hcase with rfl | rfl | rfl | rfl | rfl
 · have hst:stepS l day n 1 (ymd day).1 (ymd day).2.1 (ymd day).2.2=(day+n,0):=by unfold stepS;simp
   obtain ⟨t0,t1,-⟩:=(Blk.new w 41 #[.int .i64 n,.int .i64 1]).all;replace hb:=hb 1;rw [hst] at hr;clear hst;unfold firstS at hr;by_cases hc:1000000<day+n
   · have dc:decide (1000000<day+n)=true:=decide_eq_true hc
     rw [if_neg (fun hh=>by have:=(isB_iff _).1 hh.2;omega)] at hr;injection hr with h1 h2;subst h1 h2;go_enter Tryz.func171,Tryz.ntmps171
     go_wp2
     go_ret2
     exact ⟨rfl,hb⟩
   · have dc:decide (1000000<day+n)=false:=decide_eq_false hc
     rw [if_pos ⟨rfl,(isB_iff _).2 ⟨by omega,by omega⟩⟩] at hr;injection hr with h1 h2;subst h1 h2;go_enter Tryz.func171,Tryz.ntmps171
     go_wp2
     go_ret2
     exact ⟨rfl,hb⟩
 · have hst:stepS l day n 2 (ymd day).1 (ymd day).2.1 (ymd day).2.2=(day+7*n,0):=by unfold stepS;simp
   obtain ⟨t0,t1,-⟩:=(Blk.new w 41 #[.int .i64 n,.int .i64 2]).all;replace hb:=hb 2;rw [hst] at hr;clear hst;unfold firstS at hr;by_cases hc:1000000<day+7*n
   · have dc:decide (1000000<day+7*n)=true:=decide_eq_true hc
     rw [if_neg (fun hh=>by have:=(isB_iff _).1 hh.2;omega)] at hr;injection hr with h1 h2;subst h1 h2;go_enter Tryz.func171,Tryz.ntmps171
     go_wp2
     go_ret2
     exact ⟨rfl,hb⟩
   · have dc:decide (1000000<day+7*n)=false:=decide_eq_false hc
     rw [if_pos ⟨rfl,(isB_iff _).2 ⟨by omega,by omega⟩⟩] at hr;injection hr with h1 h2;subst h1 h2;go_enter Tryz.func171,Tryz.ntmps171
     go_wp2
     go_ret2
     exact ⟨rfl,hb⟩
 · have hst:stepS l day n 3 (ymd day).1 (ymd day).2.1 (ymd day).2.2=monS (ymd day).1 (ymd day).2.1 (ymd day).2.2 (n):=by unfold stepS;simp
   rw [hst] at hr;obtain ⟨hv,hnum⟩:=ymd_of hd;exact first_mon w day n 3 (n) (ymd day).1 (ymd day).2.1 (ymd day).2.2 C cl l r1 r2 hv hnum d1 hn hn1 (by simp) hr
 · have hst:stepS l day n 4 (ymd day).1 (ymd day).2.1 (ymd day).2.2=monS (ymd day).1 (ymd day).2.1 (ymd day).2.2 (12*n):=by unfold stepS;simp
   rw [hst] at hr;obtain ⟨hv,hnum⟩:=ymd_of hd;exact first_mon w day n 4 (12*n) (ymd day).1 (ymd day).2.1 (ymd day).2.2 C cl l r1 r2 hv hnum d1 hn hn1 (by simp) hr
 · have hst:stepS l day n 5 (ymd day).1 (ymd day).2.1 (ymd day).2.2=(nthS l n.toNat day,0):=by unfold stepS;simp
   rw [hst] at hr;exact first_work w day n B C cl l hA hB hll hd hn hn1 r1 r2 hr
theorem rAdd_any (w:World) (B:Nat) (C:Option Addr) (l:List Int) (cl:Nat) (hA:IntsAt w B C l) (hB:B≤w.heap.size) (hll:l.length≤4611686018427387904) (day n u:Int) :
 Calls Tryz.prog 148 #[.int .i64 day,.agg #[.int .i64 n,.int .i64 u],.slice C l.length cl] w fun e w'=>e = .returned (.tuple #[.int .i64 (addS l day n u).1,.int .i64 (addS l day n u).2])∧Below w.heap.size w w':=by
 obtain ⟨r1,r2,hr⟩:∃ r1 r2,addS l day n u=(r1,r2):=⟨_,_,rfl⟩;rw [hr];unfold addS at hr;have hb:=(Below.refl w.heap.size w).alloc (Nat.le_refl _) (.cells #[.int .i64 n,.int .i64 u] 41);have k0:=Blk.new w 41 #[.int .i64 n,.int .i64 u];obtain ⟨t0,t1,-⟩:=k0.all;have HA:=hd_ hA;clear hA;have hi:=fun W=>rIs_any W day
 cases hd:isB day with
 | false=>
  rw [if_pos (.inl hd)] at hr;injection hr with h1 h2;subst h1 h2;rw [hd] at hi;have HI:=hd_ hi;clear hi hd;go_enter Tryz.func148,Tryz.ntmps148
  go_wp2_with fail
  refine (HI.out _).mono ?_;rintro e w1 ⟨rfl,rfl⟩;go_wp2
  go_ret2
  exact ⟨rfl,hb⟩
 | true=>
 rw [hd] at hi;have HI:=hd_ hi;have HDD:=hd_ hd;clear hi;by_cases hbad:u<1∨5<u∨n<0∨1000000<n
 · rw [if_pos (.inr hbad)] at hr
   injection hr with h1 h2;subst h1 h2;clear hd;go_enter Tryz.func148,Tryz.ntmps148
   go_wp2_with fail
   refine (HI.out _).mono ?_;rintro e w1 ⟨rfl,rfl⟩;by_cases c1:u<1
   · have d1:decide (u<1)=true:=decide_eq_true c1
     clear hbad;go_wp2
     go_ret2
     exact ⟨rfl,hb⟩
   have d1:decide (u<1)=false:=decide_eq_false c1;by_cases c2:5<u
   · have d2:decide (5<u)=true:=decide_eq_true c2
     clear hbad;go_wp2
     go_ret2
     exact ⟨rfl,hb⟩
   have d2:decide (5<u)=false:=decide_eq_false c2;by_cases c3:n<0
   · have d3:decide (n<0)=true:=decide_eq_true c3
     clear hbad;go_wp2
     go_ret2
     exact ⟨rfl,hb⟩
   have d3:decide (n<0)=false:=decide_eq_false c3;have d4:decide (1000000<n)=true:=decide_eq_true (by omega);clear hbad;go_wp2
   go_ret2
   exact ⟨rfl,hb⟩
 have u1:1≤u:=by omega
 have u5:u≤5:=by omega
 have n0:0≤n:=by omega
 have n1:n≤1000000:=by omega
 have c1:decide (u<1)=false:=decide_eq_false (by omega);have c2:decide (5<u)=false:=decide_eq_false (by omega);have c3:decide (n<0)=false:=decide_eq_false (by omega);have c4:decide (1000000<n)=false:=decide_eq_false (by omega);rw [if_neg (by rw [hd];simp;omega)] at hr;clear hd hbad;by_cases hL:1000<l.length
 · have c5:decide ((1000:Int)<(l.length:Int))=true:=decide_eq_true (by omega)
   rw [if_pos hL] at hr;injection hr with h1 h2;subst h1 h2;go_enter Tryz.func148,Tryz.ntmps148
   go_wp2_with fail
   refine (HI.out _).mono ?_;rintro e w1 ⟨rfl,rfl⟩;go_wp2
   go_ret2
   exact ⟨rfl,hb⟩
 have c5:decide ((1000:Int)<(l.length:Int))=false:=decide_eq_false (by omega);rw [if_neg hL] at hr;obtain ⟨s,hs⟩:∃ s,stepS l day n u (ymd day).1 (ymd day).2.1 (ymd day).2.2=s:=⟨_,rfl⟩;obtain ⟨p1,p2,hp⟩:∃ p1 p2,firstS s=(p1,p2):=⟨_,_,rfl⟩;have hfs:=fun W (b:Below w.heap.size w W)=>rFirst_any W day n u B C cl l (HA.out.below (b.mono hB)) (Nat.le_trans hB b.size) hll HDD.out u1 u5 n0 n1 p1 p2 (by rw [hs];exact hp);rw [hs] at hr
 have hrel:(p1=0∧p2=10∧r1=0∧r2=10)∨(p2=0∧isB p1=true∧((isB (fromS l p1)=true∧r1=fromS l p1∧r2=0)∨(isB (fromS l p1)=false∧r1=0∧r2=10))):=by
  unfold firstS at hp;unfold endS at hr;by_cases h:s.2=0∧isB s.1=true
  · rw [if_pos h] at hp hr
    injection hp with h1 h2;subst h1 h2;refine .inr ⟨rfl,h.2,?_⟩;by_cases h3:isB (fromS l s.1)=true
    · rw [if_pos h3] at hr
      injection hr with h4 h5;exact .inl ⟨h3,h4.symm,h5.symm⟩
    · rw [if_neg h3] at hr
      injection hr with h4 h5;exact .inr ⟨by cases hh:isB (fromS l s.1);rfl;exact absurd hh h3,h4.symm,h5.symm⟩
  · rw [if_neg h] at hp hr
    injection hp with h1 h2;injection hr with h4 h5;exact .inl ⟨h1.symm,h2.symm,h4.symm,h5.symm⟩
 have HFS:=hd_ hfs;have HREL:=hd_ hrel;clear hfs hrel hs hp hr;go_enter Tryz.func148,Tryz.ntmps148
 go_wp2_with fail
 refine (HI.out _).mono ?_;rintro e w1 ⟨rfl,rfl⟩;go_wp2_with fail
 refine (HFS.out _ hb).mono ?_;rintro e w2 ⟨rfl,b⟩;replace hb:=hb.trans (b.mono hb.size);clear b t0 t1 k0;go_wp2_with fail
 clear c1 c2 c3 c4 c5;go_loopw [8,9] (fun v ev wr=>∃ (x ec:Int),v = .int .i64 x∧ev = .int .i64 ec∧0≤x∧x≤1000001∧Hid (((ec=10∧r1=0∧r2=10))∨(ec=0∧x≤1000000∧((isB (fromS l x)=true∧r1=fromS l x∧r2=0)∨(isB (fromS l x)=false∧r1=0∧r2=10))))∧Below w.heap.size w wr) (fun v _ _=>(1000002 - intOf v).toNat)
 case atStart=>
  rcases HREL.out with ⟨h1,h2,h3,h4⟩ | ⟨h1,h2,h3⟩
  · exact ⟨p1,p2,rfl,rfl,by omega,by omega,hd_ (.inl ⟨h2,h3,h4⟩),hb⟩
  · obtain ⟨h4,h5⟩:=(isB_iff _).1 h2
    exact ⟨p1,p2,rfl,rfl,h4,by omega,hd_ (.inr ⟨h1,h5,h3⟩),hb⟩
 case round=>
  clear hb;obtain ⟨x,ec,rfl,rfl,x0,x9,hx,hb⟩:=hrel;rcases hx.out with ⟨rfl,rfl,rfl⟩ | ⟨rfl,x1,hx2⟩
  · clear hx
    go_wp2
    go_ret2
    exact ⟨rfl,hb⟩
  · have HX2:=hd_ hx2
    have hwk:=rWork_any wr B C l cl (HA.out.below (hb.mono hB)) hll x;have hbx:isB x=true:=(isB_iff x).2 ⟨x0,x1⟩;clear hx hx2
    cases hop:opB l x with
    | true=>
     rw [hop] at hwk
     have hres:r1=x∧r2=0:=by
      have h:=HX2.out;rw [fromS_here hop,hbx] at h;rcases h with ⟨-,h2,h3⟩ | ⟨h1,-⟩
      · exact ⟨h2,h3⟩
      · cases h1
     obtain ⟨h1,h2⟩:=hres;subst h1 h2;have HWK:=hd_ hwk;clear hwk hbx hop HX2 HREL;go_wp2_with fail
     refine HWK.out.mono ?_;rintro e w3 ⟨rfl,rfl⟩;go_wp2
     go_ret2
     exact ⟨rfl,hb⟩
    | false=>
     rw [hop] at hwk;have hon:=fromS_on hbx hop;have HON:=hd_ hon;have HWK:=hd_ hwk;clear hwk hbx hop hon;go_wp2_with fail
     refine HWK.out.mono ?_;rintro e w3 ⟨rfl,rfl⟩;by_cases hov:1000000<x+1
     · have dc:decide (1000000<x+1)=true:=decide_eq_true hov
       go_wp2
       go_roundw
       case rel=>
        have h:=HX2.out;have e1:x+1=1000001:=by omega
        have h5:isB (1000001:Int)=false:=by decide
        rw [HON.out,e1,fromS_eq,if_neg (fun hh=>by rw [h5] at hh;cases hh.1),h5] at h;rcases h with ⟨h1,-⟩ | ⟨-,h2,h3⟩
        · cases h1
        · exact ⟨x+1,10,by go_num,rfl,by omega,by omega,hd_ (.inl ⟨rfl,h2,h3⟩),hb⟩
       case measure=>simp [intOf];omega
     · have dc:decide (1000000<x+1)=false:=decide_eq_false hov
       go_wp2
       go_roundw
       case rel=>exact ⟨x+1,0,by go_num,rfl,by omega,by omega,hd_ (.inr ⟨rfl,by omega,by have h:=HX2.out;rw [HON.out] at h;exact h⟩),hb⟩
       case measure=>simp [intOf];omega
theorem add_le {l:List Int} {d n u:Int} (h:(addS l d n u).2=0):(addS l d n u).1≤1000000:=by
 obtain ⟨-,g2,-⟩:=add_ge h;exact ((isB_iff _).1 g2).2
theorem rDue_any (w:World) (L:Lm) (B:Nat) (A:Option Addr) (c:Nat) (h:LmAt w B A L) (hB:B≤w.heap.size) (C:Option Addr) (l:List Int) (cl:Nat) (hA:IntsAt w B C l) (hll:l.length≤4611686018427387904) :
 Calls Tryz.prog 127 #[.agg (L.cells A c),.slice C l.length cl] w fun e w'=>e = .returned (.tuple #[.int .i64 (dueS L l).1,.int .i64 (dueS L l).2])∧Below w.heap.size w w':=by
 obtain ⟨r1,r2,hr⟩:∃ r1 r2,dueS L l=(r1,r2):=⟨_,_,rfl⟩;rw [hr];unfold dueS at hr;have HA:=hd_ hA;have HX:=hd_ h;clear hA h;have e0:Array.size #[Value.string L.id]=1:=rfl;show Calls Tryz.prog 127 #[.agg #[.string L.id,.int .i64 L.n,.int .i64 L.u,.int .i64 L.f,.slice A L.S.length c],.slice C l.length cl] w _;have hb:=(Below.refl w.heap.size w).alloc (Nat.le_refl _) (.cells #[.string L.id,.int .i64 L.n,.int .i64 L.u,.int .i64 L.f,.slice A L.S.length c] 44);have k0:=Blk.new w 44 #[.string L.id,.int .i64 L.n,.int .i64 L.u,.int .i64 L.f,.slice A L.S.length c];clear e0;obtain ⟨t0,t1,-⟩:=k0.all;have hpr:=rProper_any _ L B A c (HX.out.below (hb.mono hB)) (Nat.le_trans hB hb.size)
 cases hp:prB L with
 | false=>
  rw [hp,if_neg (by simp)] at hr;injection hr with h1 h2;subst h1 h2;rw [hp] at hpr;have HPR:=hd_ hpr;clear hpr hp;go_enter Tryz.func127,Tryz.ntmps127
  go_wp2_with fail
  refine HPR.out.mono ?_;rintro e w1 ⟨rfl,b⟩;replace hb:=hb.trans (b.mono hb.size);go_wp2
  go_ret2
  exact ⟨rfl,hb⟩
 | true=>
 rw [hp,if_pos rfl] at hr;rw [hp] at hpr;obtain ⟨-,hf,-,-,hS⟩:=prB_iff.1 hp;obtain ⟨f0,f1⟩:=(isB_iff _).1 hf;have hpf:=pz_far (f:=L.f) hS;have HPF:=hd_ hpf;have HPR:=hd_ hpr;have HR:=hd_ hr;clear hpr hp hpf hS hf hr;obtain ⟨a1,a2,ha⟩:∃ a1 a2,addS l L.f L.n L.u=(a1,a2):=⟨_,_,rfl⟩;go_enter Tryz.func127,Tryz.ntmps127
 go_wp2_with fail
 refine HPR.out.mono ?_;rintro e w1 ⟨rfl,b⟩;have k1:=k0.below b k0.lt;replace hb:=hb.trans (b.mono hb.size);clear b HPR k0 t0 t1;obtain ⟨t0,t1,-⟩:=k1.all;have hadd:=rAdd_any w1 B C l cl (HA.out.below (hb.mono hB)) (Nat.le_trans hB hb.size) hll L.f L.n L.u;rw [ha] at hadd;have HAD:=hd_ hadd;clear hadd;have HAA:=hd_ ha;clear ha;go_wp2_with fail
 refine HAD.out.mono ?_;rintro e w2 ⟨rfl,b⟩;have k2:=k1.below b k1.lt;replace hb:=hb.trans (b.mono hb.size);clear b HAD k1 t0 t1;obtain ⟨t0,t1,-⟩:=k2.all;by_cases hz:a2=0
 case neg=>
  have hz2:(a2 != 0)=true:=by simpa using hz
  have hr:=HR.out;rw [HAA.out,if_neg hz] at hr;injection hr with h1 h2;subst h1 h2;clear HR;go_wp2
  go_ret2
  exact ⟨rfl,hb⟩
 subst hz;have hr:=HR.out;rw [HAA.out,if_pos rfl] at hr;obtain ⟨g1,-,-⟩:=add_ge (l:=l) (d:=L.f) (n:=L.n) (u:=L.u) (by rw [HAA.out]);have g2:=add_le (l:=l) (d:=L.f) (n:=L.n) (u:=L.u) (by rw [HAA.out]);rw [HAA.out] at g1 g2;simp only at hr g1 g2;obtain ⟨N,hN⟩:∃ N:Nat,(a1 - L.f).toNat=N:=⟨_,rfl⟩;have hNN:a1 - L.f=(N:Int):=by omega
 rw [hN] at hr;have HR2:=hd_ hr;have HNN:=hd_ hNN;have Nb:(N:Int)≤1000000:=by omega
 clear hr HR hN hNN;go_wp2_with fail
 clear t0 t1;go_loopw [8,9] (fun v dv wr=>∃ (k:Nat) (q:Int),v = .int .i64 q∧dv = .int .i64 (L.f+(k:Int))∧0≤q∧q≤(N:Int)∧L.f+(k:Int)+q≤2000000∧Hid (q=(N:Int) - (cntU (pzB L.f L.S) L.f k:Int)∧(q=0→0<N→pzB L.f L.S (L.f+(k:Int))=false)∧(N=0→k=0))∧Blk wr w.heap.size 44 #[.string L.id,.int .i64 L.n,.int .i64 L.u,.int .i64 L.f,.slice A L.S.length c]∧Below w.heap.size w wr) (fun v dv _=>(intOf v).toNat+(1000001 - intOf dv).toNat)
 case atStart=>exact ⟨0,(N:Int),by rw [HNN.out],by go_num,by omega,by omega,by omega,hd_ ⟨by show (N:Int)=(N:Int) - 0;omega,fun h1 h2=>by omega,fun _=>rfl⟩,k2,hb⟩
 case round=>
  clear hb k2;obtain ⟨k,q,rfl,rfl,q0,q1,qb,hq,k2,hb⟩:=hrel;obtain ⟨t0,t1,-⟩:=k2.all;by_cases hlt:0<q
  · have hpa:=rPaused_any wr L (L.f+(k:Int)+1) B A c (HX.out.below (hb.mono hB)) (Nat.le_trans hB hb.size)
    have hcs:cntU (pzB L.f L.S) L.f (k+1)=cntU (pzB L.f L.S) L.f k+if pzB L.f L.S (L.f+1+(k:Int))=true then 0 else 1:=rfl;rw [show L.f+1+(k:Int)=L.f+(k:Int)+1 by omega] at hcs;have hfar:=HPF.out (L.f+(k:Int)+1);have hk1:L.f+((k+1:Nat):Int)=L.f+(k:Int)+1:=by omega
    cases hz:pzB L.f L.S (L.f+(k:Int)+1) with
    | true=>
     rw [hz] at hpa;rw [hz,if_pos rfl] at hcs
     have hlow:L.f+(k:Int)+1<1000000:=by
      rcases Int.lt_or_le (L.f+(k:Int)+1) 1000000 with c2 | c2
      · exact c2
      · rw [hfar c2] at hz;cases hz
     have HPA:=hd_ hpa;have HCS:=hd_ hcs;have HK1:=hd_ hk1;clear hpa hcs hfar hz hk1;go_wp2_with fail
     refine HPA.out.mono ?_;rintro e w3 ⟨rfl,b⟩;have k3:=k2.below b k2.lt;replace hb:=hb.trans (b.mono hb.size);clear b k2 t0 t1;go_wp2
     go_roundw
     case rel=>exact ⟨k+1,q,rfl,by rw [HK1.out],q0,q1,by omega,hd_ ⟨by rw [HCS.out];exact hq.out.1,fun h1=>by omega,fun h1=>by omega⟩,k3,hb⟩
     case measure=>simp [intOf];omega
    | false=>
     rw [hz] at hpa;rw [hz,if_neg (by simp)] at hcs;have HPA:=hd_ hpa;have HCS:=hd_ hcs;have HZ:=hd_ hz;have HK1:=hd_ hk1;clear hpa hcs hfar hz hk1;go_wp2_with fail
     refine HPA.out.mono ?_;rintro e w3 ⟨rfl,b⟩;have k3:=k2.below b k2.lt;replace hb:=hb.trans (b.mono hb.size);clear b k2 t0 t1;go_wp2
     go_roundw
     case rel=>exact ⟨k+1,q - 1,by go_num,by rw [HK1.out],by omega,by omega,by omega,hd_ ⟨by have:=hq.out.1;have:=HCS.out;omega,fun _ _=>by rw [HK1.out];exact HZ.out,fun h1=>by omega⟩,k3,hb⟩
     case measure=>simp [intOf];omega
  · obtain rfl:q=0:=by omega
    have hnth:nthU (pzB L.f L.S) L.f N=L.f+(k:Int):=by
     obtain ⟨h1,h2,h3⟩:=hq.out;refine nthU_uniq HPF.out (by omega) (fun h0=>by rw [h3 h0];simp) (fun h0=>h2 rfl h0) ?_;rw [show (L.f+(k:Int) - L.f).toNat=k by omega];omega
    have hr:=HR2.out;rw [hnth] at hr;have HR3:=hd_ hr;clear hr hnth hq t0 t1;go_wp2_with fail
    go_loopw [9] (fun dv wr=>∃ x:Int,0≤x∧x≤3000000∧dv = .int .i64 x∧Hid (openS (pzB L.f L.S) l x=(r1,r2))∧Blk wr w.heap.size 44 #[.string L.id,.int .i64 L.n,.int .i64 L.u,.int .i64 L.f,.slice A L.S.length c]∧Below w.heap.size w wr) (fun dv _=>(1000001 - intOf dv).toNat)
    case atStart=>exact ⟨L.f+(k:Int),by omega,by omega,rfl,HR3,k2,hb⟩
    case round=>
     clear hb k2;obtain ⟨x,x0,x1,rfl,hx,k2,hb⟩:=hrel;obtain ⟨t0,t1,-⟩:=k2.all;by_cases hle:x≤1000000
     · have hin:=openS_in (p:=pzB L.f L.S) (l:=l) hle
       rw [hx.out] at hin;have hpa:=rPaused_any wr L x B A c (HX.out.below (hb.mono hB)) (Nat.le_trans hB hb.size)
       cases hz:pzB L.f L.S x with
       | true=>
        rw [hz] at hpa hin;rw [if_neg (by simp)] at hin;have HIN:=hd_ hin.symm;have HPA:=hd_ hpa;clear hin hpa hz hx;go_wp2_with fail
        refine HPA.out.mono ?_;rintro e w3 ⟨rfl,b⟩;have k3:=k2.below b k2.lt;replace hb:=hb.trans (b.mono hb.size);clear b k2 t0 t1;go_wp2
        go_roundw
        case rel=>exact ⟨x+1,by omega,by omega,by go_num,HIN,k3,hb⟩
        case measure=>simp [intOf];omega
       | false=>
        rw [hz] at hpa hin;have hwk:=fun W (b:Below w.heap.size w W)=>rWork_any W B C l cl (HA.out.below (b.mono hB)) hll x
        cases ho:opB l x with
        | true=>
         rw [ho,if_pos (by rfl)] at hin;rw [ho] at hwk;injection hin with h1 h2;subst h1 h2;have HWK:=hd_ hwk;have HPA:=hd_ hpa;clear hwk hpa hz ho hx HR2 HR3;go_wp2_with fail
         refine HPA.out.mono ?_;rintro e w3 ⟨rfl,b⟩;replace hb:=hb.trans (b.mono hb.size);clear b k2 t0 t1;go_wp2_with fail
         refine (HWK.out _ hb).mono ?_;rintro e w4 ⟨rfl,rfl⟩;go_wp2
         go_ret2
         exact ⟨rfl,hb⟩
        | false=>
         rw [ho,if_neg (by simp)] at hin;rw [ho] at hwk;have HIN:=hd_ hin.symm;have HWK:=hd_ hwk;have HPA:=hd_ hpa;clear hin hwk hpa hz ho hx;go_wp2_with fail
         refine HPA.out.mono ?_;rintro e w3 ⟨rfl,b⟩;have k3:=k2.below b k2.lt;replace hb:=hb.trans (b.mono hb.size);clear b k2 t0 t1;go_wp2_with fail
         refine (HWK.out _ hb).mono ?_;rintro e w4 ⟨rfl,rfl⟩;go_wp2
         go_roundw
         case rel=>exact ⟨x+1,by omega,by omega,by go_num,HIN,k3,hb⟩
         case measure=>simp [intOf];omega
     · have hin:=openS_out (p:=pzB L.f L.S) (l:=l) (x:=x) (by omega)
       rw [hx.out] at hin;injection hin with h1 h2;subst h1 h2;have d1:decide (x≤1000000)=false:=decide_eq_false hle;have d2:decide (1000000<x)=true:=decide_eq_true (by omega);clear hx HR2 HR3;go_wp2
       go_ret2
       exact ⟨rfl,hb⟩
end Go.Proofs.YtknchlpcpgflkaaGreatDoor.Lim
