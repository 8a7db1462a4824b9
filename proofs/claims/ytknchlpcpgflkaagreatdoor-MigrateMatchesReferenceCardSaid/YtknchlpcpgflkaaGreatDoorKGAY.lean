import Derived.Test.YtknchlpcpgflkaaGreatDoorKGAV
import Derived.Test.YtknchlpcpgflkaaGreatDoorKWc
import Derived.Laws.Cover1
import Derived.Test.YtknchlpcpgflkaaGreatDoorKGAL
import Derived.Test.YtknchlpcpgflkaaGreatDoorKGAN
set_option maxRecDepth 100000
set_option maxHeartbeats 16000000
namespace Go.Proofs.YtknchlpcpgflkaaGreatDoor
open Go.RowKit Go.Shelf
def nmM (s:ByteArray):Mt:=⟨s,0,[],bs [112],0,[],[],[]⟩
theorem nmM_fm (s:ByteArray):fmB (nmM s)=nameB s:=by
 unfold fmB nmM;have h:(nameB (bs [112]) && (isB 0 && (decide ((0:Int)≤0∧(0:Int)<60) && (([]:List Int).all isB && (decide (([]:List Int).length≤60) && (upB 0 [] && (decide (([]:List Int).length≤60) && (difB (·.1) (rtB 0) [] && difB (·.id) prB []))))))))=true:=by decide
 show (nameB s && _)=_;rw [h,Bool.and_true]
theorem gname_any (w:World) (ht:Tbs w) (s:ByteArray) (hs:s.size≤9223372036854775807) :
 Calls Tryz.prog 101 #[.string s] w fun e w'=>e = .returned (.bool (nameB s))∧Below w.heap.size w w':=by
 have hx:MtAt w w.heap.size (nmM s) ⟨none,0,none,0,none,0,none,0,[]⟩:=⟨fun i x hi=>by simp [nmM] at hi,fun i x hi=>by simp [nmM] at hi,RtsAt.nil _ _ _,LmsAt.nil _ _ _,rfl,hs,(by show (bs [112]).size≤9223372036854775807;decide),fun r hr=>by simp [nmM] at hr⟩;have htx:=text_any w ht w.heap.size (nmM s) _ hx (Nat.le_refl _) ⟨Nat.zero_le _,Nat.zero_le _,Nat.zero_le _,Nat.zero_le _⟩;unfold TextPost at htx;rw [nmM_fm] at htx;have htx':Calls Tryz.prog 35 #[.agg #[.string s,.int .i64 0,.slice none 0 0,.string (bs [112]),.int .i64 0,.slice none 0 0,.slice none 0 0,.slice none 0 0]] w _:=htx;obtain ⟨q,hq⟩:∃ q,nameB s=q:=⟨_,rfl⟩;rw [hq] at htx' ⊢;obtain ⟨R,hR⟩:∃ R,(if q=true then textL (nmM s) else [])=R:=⟨_,rfl⟩;rw [hR] at htx';have HT:=hd_ htx';clear htx htx' hx ht hq hR
 cases q with
 | true=>
  go_enter Tryz.func101,Tryz.ntmps101
  go_wp2_with fail
  refine HT.out.mono ?_;rintro e w1 ⟨rfl,hb⟩;clear HT;go_wp2
  go_ret
  exact ⟨rfl,hb⟩
 | false=>
  go_enter Tryz.func101,Tryz.ntmps101
  go_wp2_with fail
  refine HT.out.mono ?_;rintro e w1 ⟨rfl,hb⟩;clear HT;go_wp2
  go_ret
  exact ⟨rfl,hb⟩
theorem gterm_any (w:World) (B:Nat) (L:LmV) (h:LmAt w B L.2.1 L.1) (hB:B≤w.heap.size) :
 Calls Tryz.prog 103 #[.agg #[.string L.1.id,.int .i64 L.1.n,.int .i64 L.1.u,.int .i64 L.1.f,.slice L.2.1 L.1.S.length L.2.2]] w fun e w'=>e = .returned (.bool (tmB L.1))∧Below w.heap.size w w':=by
 obtain ⟨M,A,c⟩:=L;simp only at *;have hb:=below_self_alloc w (.cells #[.string M.id,.int .i64 M.n,.int .i64 M.u,.int .i64 M.f,.slice A M.S.length c] 44);have kx:=Blk.new w 44 #[.string M.id,.int .i64 M.n,.int .i64 M.u,.int .i64 M.f,.slice A M.S.length c]
 have hp:Calls Tryz.prog 142 #[.agg #[.string M.id,.int .i64 M.n,.int .i64 M.u,.int .i64 M.f,.slice A M.S.length c],.agg #[.int .i64 0,.int .i64 0]] (w.alloc (.cells #[.string M.id,.int .i64 M.n,.int .i64 M.u,.int .i64 M.f,.slice A M.S.length c] 44)) _:=
  pause_any _ M (0,0) B A c (h.below (hb.mono hB)) (Nat.le_trans hB hb.size)
 obtain ⟨q,hq⟩:∃ q,prB M=q:=⟨_,rfl⟩
 have hpe:(pauseS M (0,0)).2=if q=true then (if M.S.length=60 then 2 else 0) else 1:=by
  unfold pauseS;rw [hq,show psB (0,0)=true from rfl,Bool.and_true]
  split
  · split <;> rfl
  · rfl
 unfold tmB;rw [hq];obtain ⟨R,hR⟩:∃ R,pauseS M (0,0)=R:=⟨_,rfl⟩;rw [hR] at hp hpe;obtain ⟨R1,R2⟩:=R;simp only at hpe;obtain ⟨n,hn⟩:∃ n,M.S.length=n:=⟨_,rfl⟩
 have hsn:decide (M.S=[])=decide (n=0):=by
  rw [← hn]
  cases M.S with
  | nil=>rfl
  | cons x l=>rfl
 rw [hsn];rw [hn] at hp hpe hb kx ⊢;obtain ⟨Q,hQ⟩:∃ Q,(q && decide (n=0))=Q:=⟨_,rfl⟩;rw [hQ];have HP:=hd_ hp;have HPE:=hd_ hpe;have HQ:=hd_ hQ;clear hp hpe hR hq h hsn hn hQ;obtain ⟨t0,t1,t2⟩:=kx.all;go_enter Tryz.func103,Tryz.ntmps103
 go_wp2_with fail
 refine HP.out.mono ?_;rintro e w1 ⟨A',c',rfl,hst,b1⟩;have hb2:=hb.trans (b1.mono hb.size);have hb3:=hb2.alloc hb2.size (.cells (R1.cells A' c') 44);have k2:=(kx.below b1 kx.lt).alloc (.cells (R1.cells A' c') 44);clear b1 hst kx t0 t1 t2 hb;unfold Lm.cells at hb3 k2 ⊢;obtain ⟨t0,t1,t2⟩:=k2.all;clear k2;have hpe:=HPE.out;have hq2:=HQ.out
 cases q with
 | false=>
  obtain rfl:R2=1:=hpe;obtain rfl:false=Q:=hq2;clear HPE HQ HP;go_wp2
  go_ret
  exact ⟨rfl,hb3⟩
 | true=>
  by_cases h60:n=60
  · obtain rfl:R2=2:=by rw [hpe,if_pos rfl,if_pos h60]
    obtain rfl:false=Q:=by rw [← hq2,h60];rfl
    clear hpe hq2 HPE HQ HP h60;go_wp2
    go_ret
    exact ⟨rfl,hb3⟩
  · obtain rfl:R2=0:=by rw [hpe,if_pos rfl,if_neg h60]
    have hfin:((n:Int) == 0)=Q:=by
     rw [← hq2,Bool.true_and,Bool.eq_iff_iff,beq_iff_eq,decide_eq_true_eq];omega
    have HF:=hd_ hfin;clear hpe hq2 HPE HQ HP h60 hfin;go_wp2
    go_ret
    exact ⟨congrArg (fun b=>Ending.returned (.bool b)) HF.out,hb3⟩
theorem gst_any (w:World) (n:Int):Calls Tryz.prog 99 #[.int .i64 n] w fun e w'=>e = .returned (.bool !stB n)∧Below w.heap.size w w':=by
 have hr:stB n=decide (-1≤n∧n<60):=rfl;by_cases h0:n < -1
 · have e:stB n=false:=by rw [hr];exact decide_eq_false (by omega)
   have d:decide (n < -1)=true:=decide_eq_true h0;rw [e];clear hr e;go_enter Tryz.func99,Tryz.ntmps99
   go_wp2
   go_ret
   exact ⟨rfl,Below.refl _ _⟩
 · have d:decide (n < -1)=false:=decide_eq_false h0
   by_cases h1:60≤n
   · have e:stB n=false:=by rw [hr];exact decide_eq_false (by omega)
     rw [e];clear hr e;have d2:decide (60≤n)=true:=decide_eq_true h1;go_enter Tryz.func99,Tryz.ntmps99
     go_wp2
     go_ret
     exact ⟨rfl,Below.refl _ _⟩
   · have e:stB n=true:=by rw [hr];exact decide_eq_true (by omega)
     have d2:decide (60≤n)=false:=decide_eq_false h1;rw [e];clear hr e;go_enter Tryz.func99,Tryz.ntmps99
     go_wp2
     go_ret
     exact ⟨rfl,Below.refl _ _⟩
theorem grt_any (w:World) (ht:Tbs w) (r:S2) (h1:r.1.size≤9223372036854775807) (h2:r.2.size≤9223372036854775807) :
 Calls Tryz.prog 100 #[.agg #[.string r.1,.string r.2]] w fun e w'=>e = .returned (.bool (!rnB r))∧Below w.heap.size w w':=by
 obtain ⟨a,b⟩:=r;simp only at *;have hb:=below_self_alloc w (.cells #[.string a,.string b] 75);have kx:=Blk.new w 75 #[.string a,.string b];have HN1:=hd_ (gname_any (w.alloc (.cells #[.string a,.string b] 75)) (ht.below hb) a h1);have HN2:=hd_ fun W (hW:Below w.heap.size w W)=>gname_any W (ht.below hW) b h2;obtain ⟨t0,t1,t2⟩:=kx.all;unfold rnB;simp only
 cases hq:nameB a with
 | false=>
  have hn:=HN1.out;rw [hq] at hn;have HN:=hd_ hn;clear HN1 HN2 hn hq ht;go_enter Tryz.func100,Tryz.ntmps100
  go_wp2_with fail
  refine HN.out.mono ?_;rintro e w1 ⟨rfl,b1⟩;have hb2:=hb.trans (b1.mono hb.size);clear b1 t0 t1 t2;go_wp2
  go_ret
  exact ⟨rfl,hb2⟩
 | true=>
  have hn:=HN1.out;rw [hq] at hn;have HN:=hd_ hn;obtain ⟨q,hq2⟩:∃ q,nameB b=q:=⟨_,rfl⟩;rw [hq2] at HN2 ⊢;clear HN1 hn hq hq2 ht;have KX:=hd_ kx;clear kx;go_enter Tryz.func100,Tryz.ntmps100
  go_wp2_with fail
  refine HN.out.mono ?_;rintro e w1 ⟨rfl,b1⟩;have hb2:=hb.trans (b1.mono hb.size);have k1:=KX.out.below b1 KX.out.lt;have H2:=hd_ (HN2.out w1 hb2);clear b1 t0 t1 t2 HN KX HN2;obtain ⟨t0,t1,t2⟩:=k1.all;go_wp2_with fail
  refine H2.out.mono ?_;rintro e w2 ⟨rfl,b2⟩;have hb3:=hb2.trans (b2.mono hb2.size);clear b2 t0 t1 t2 k1 H2 hb2
  cases q <;> go_wp2 <;> go_ret <;> exact ⟨rfl,hb3⟩
theorem gtm_any (w:World) (B:Nat) (x:LmV) (h:LmAt w B x.2.1 x.1) (hB:B≤w.heap.size) :
 Calls Tryz.prog 102 #[.agg #[.string x.1.id,.int .i64 x.1.n,.int .i64 x.1.u,.int .i64 x.1.f,.slice x.2.1 x.1.S.length x.2.2]] w fun e w'=>e = .returned (.bool (!tmB x.1))∧Below w.heap.size w w':=by
 have hb:=below_self_alloc w (.cells #[.string x.1.id,.int .i64 x.1.n,.int .i64 x.1.u,.int .i64 x.1.f,.slice x.2.1 x.1.S.length x.2.2] 44);have kx:=Blk.new w 44 #[.string x.1.id,.int .i64 x.1.n,.int .i64 x.1.u,.int .i64 x.1.f,.slice x.2.1 x.1.S.length x.2.2];have HN:=hd_ (gterm_any (w.alloc (.cells #[.string x.1.id,.int .i64 x.1.n,.int .i64 x.1.u,.int .i64 x.1.f,.slice x.2.1 x.1.S.length x.2.2] 44)) B x (h.below (hb.mono hB)) (Nat.le_trans hB hb.size));obtain ⟨t0,t1,t2⟩:=kx.all;obtain ⟨q,hq⟩:∃ q,tmB x.1=q:=⟨_,rfl⟩;rw [hq] at HN ⊢;clear hq h;go_enter Tryz.func102,Tryz.ntmps102
 go_wp2_with fail
 refine HN.out.mono ?_;rintro e w1 ⟨rfl,b1⟩;have hb2:=hb.trans (b1.mono hb.size);clear b1 t0 t1 t2;go_wp2
 go_ret
 exact ⟨rfl,hb2⟩
theorem mg_no {g:Mg} (h:nameB g.fr=false∨nameB g.tn=false∨g.st=[]∨60<g.st.length∨60<g.rs.length∨60<g.ts.length∨(g.st.any fun s => !stB s)=true∨(g.rs.any fun r => !rnB r)=true∨(g.ts.any fun t => !tmB t)=true):mgB g=false:=by
 cases hm:mgB g with
 | false=>rfl
 | true=>
  obtain ⟨h1,h2,h3,h4,h5,h6⟩:=mgB_iff.1 hm;obtain ⟨a1,-,a3⟩:=difB_iff.1 h5;obtain ⟨b1,-,b3⟩:=difB_iff.1 h6;exfalso;rcases h with h | h | h | h | h | h | h | h | h
  · rw [h1] at h;cases h
  · rw [h2] at h;cases h
  · exact h3.1 h
  · omega
  · omega
  · omega
  · obtain ⟨s,hs,he⟩:=List.any_eq_true.1 h
    have:stB s=true:=decide_eq_true (h4 s hs);rw [this] at he
    cases he
  · obtain ⟨s,hs,he⟩:=List.any_eq_true.1 h
    rw [a1 s hs] at he
    cases he
  · obtain ⟨s,hs,he⟩:=List.any_eq_true.1 h
    rw [b1 s hs] at he
    cases he
theorem not_any {α:Type} {p:α→Bool} {l:List α} (h:(l.any fun x => !p x)=false):∀ x∈l,p x=true:=by
 intro x hx
 cases hp:p x with
 | true=>rfl
 | false=>rw [List.any_eq_false] at h;exact absurd (by rw [hp];rfl) (h x hx)
theorem mg_yes {g:Mg} (h1:nameB g.fr=true) (h2:nameB g.tn=true) (h3:g.st≠[]) (l1:g.st.length≤60) (l2:g.rs.length≤60) (l3:g.ts.length≤60) (h4:(g.st.any fun s => !stB s)=false) (h5:(g.rs.any fun r => !rnB r)=false) (h6:(g.ts.any fun t => !tmB t)=false) :
 mgB g=(decide (g.rs.map (·.1)).Nodup && decide (g.ts.map (·.id)).Nodup):=by
 rw [Bool.eq_iff_iff,mgB_iff,Bool.and_eq_true,decide_eq_true_eq,decide_eq_true_eq,difB_iff,difB_iff];exact ⟨fun h=>⟨h.2.2.2.2.1.2.1,h.2.2.2.2.2.2.1⟩,fun h=>⟨h1,h2,⟨h3,l1⟩,fun s hs=>of_decide_eq_true (not_any h4 s hs),⟨not_any h5,h.1,l2⟩,⟨not_any h6,h.2,l3⟩⟩⟩
theorem lms_elem {w:World} {B:Nat} {A:Option Addr} {l:List LmV} (h:LmsAt w B A l) {x:LmV} (hx:x∈l):LmAt w B x.2.1 x.1:=by
 obtain ⟨i,hi⟩:=List.getElem?_of_mem hx;obtain ⟨g,off,-,-,-,-,-,-,-,hl⟩:=h i x hi;exact hl
theorem gformed_any (w:World) (ht:Tbs w) (B:Nat) (g:Mg) (x:MgX) (h:MgAt w B g x) (hB:B≤w.heap.size) (hs:SmlG g) :
 Calls Tryz.prog 47 #[.agg (mgC g x)] w fun e w'=>e = .returned (.bool (mgB g))∧Below w.heap.size w w':=by
 obtain ⟨hst,hrs,hts,htv,hfr,htn,hrn⟩:=h;obtain ⟨s1,s2,s3⟩:=hs;have hno := @mg_no g;have hyes := @mg_yes g;obtain ⟨Q,hQ⟩:∃ Q,mgB g=Q:=⟨_,rfl⟩;rw [hQ] at hno hyes ⊢;clear hQ;obtain ⟨fr,tn,st,rs,ts⟩:=g;obtain ⟨a1,c1,a2,c2,a3,c3,tv⟩:=x;simp only at *;subst htv;rw [List.length_map] at s3 hno hyes;have e1:((tv.map (·.1)).any fun t => !tmB t)=tv.any fun x => !tmB x.1:=by rw [List.any_map];rfl
 have e2:((tv.map (·.1)).map (·.id))=tv.map fun x:LmV=>x.1.id:=by rw [List.map_map];rfl
 rw [e1] at hno hyes;rw [e2] at hyes;rw [show mgC ⟨fr,tn,st,rs,tv.map (·.1)⟩ ⟨a1,c1,a2,c2,a3,c3,tv⟩=#[.string fr,.string tn,.slice a1 st.length c1,.slice a2 rs.length c2,.slice a3 tv.length c3] from by simp [mgC]];have hb:=below_self_alloc w (.cells #[.string fr,.string tn,.slice a1 st.length c1,.slice a2 rs.length c2,.slice a3 tv.length c3] 30);have kx:=Blk.new w 30 #[.string fr,.string tn,.slice a1 st.length c1,.slice a2 rs.length c2,.slice a3 tv.length c3];have hn1:=fun W (hW:Below w.heap.size w W)=>gname_any W (ht.below hW) fr hfr;have hn2:=fun W (hW:Below w.heap.size w W)=>gname_any W (ht.below hW) tn htn;have hc1:=fun W (hW:Below w.heap.size w W)=>containsZ_any W B a1 st c1 (hst.below (hW.mono hB)) (Nat.le_trans hB hW.size) (by omega) (fun s => !stB s) 99 #[] (enters_of Tryz.func99 (by kernel_rfl) rfl) (fun W2 s _ _=>gst_any W2 s);have hc2:=fun W (hW:Below w.heap.size w W)=>containsP_any W B a2 rs c2 (hrs.below (hW.mono hB)) (Nat.le_trans hB hW.size) (by omega) (fun r => !rnB r) 100 #[] (enters_of Tryz.func100 (by kernel_rfl) rfl) (fun W2 r hr h2=>grt_any W2 (ht.below (hW.trans (h2.mono hW.size))) r (hrn r hr).1 (hrn r hr).2);have hc3:=fun W (hW:Below w.heap.size w W)=>containsL_any W B a3 tv c3 (hts.below (hW.mono hB)) (Nat.le_trans hB hW.size) (by omega) (fun x => !tmB x.1) 102 #[] (enters_of Tryz.func102 (by kernel_rfl) rfl) (fun W2 y hy h2=>gtm_any W2 B y ((lms_elem hts hy).below ((hW.trans (h2.mono hW.size)).mono hB)) (Nat.le_trans hB (hW.trans (h2.mono hW.size)).size));have ho1:=fun W (hW:Below w.heap.size w W)=>onceP_any W B a2 rs c2 (hrs.below (hW.mono hB)) (Nat.le_trans hB hW.size) (by omega) 108 (enters_of Tryz.func108 (by kernel_rfl) rfl) key4_any;have ho2:=fun W (hW:Below w.heap.size w W)=>onceL_any W B a3 tv c3 (hts.below (hW.mono hB)) (Nat.le_trans hB hW.size) (by omega) 109 (enters_of Tryz.func109 (by kernel_rfl) rfl) key5_any;obtain ⟨q1,hq1⟩:∃ q,nameB fr=q:=⟨_,rfl⟩;obtain ⟨q2,hq2⟩:∃ q,nameB tn=q:=⟨_,rfl⟩;obtain ⟨q4,hq4⟩:∃ q,(st.any fun s => !stB s)=q:=⟨_,rfl⟩;obtain ⟨q5,hq5⟩:∃ q,(rs.any fun r => !rnB r)=q:=⟨_,rfl⟩;obtain ⟨q6,hq6⟩:∃ q,(tv.any fun x => !tmB x.1)=q:=⟨_,rfl⟩;obtain ⟨q7,hq7⟩:∃ q,decide (rs.map (·.1)).Nodup=q:=⟨_,rfl⟩;obtain ⟨q8,hq8⟩:∃ q,decide (tv.map fun x:LmV=>x.1.id).Nodup=q:=⟨_,rfl⟩;have hse:(st=[])=(st.length=0):=by rw [List.length_eq_zero_iff]
 rw [hq1,hq2,hq4,hq5,hq6,hse] at hno;rw [hq1,hq2,hq4,hq5,hq6,hq7,hq8] at hyes;have hyes':q1=true→q2=true→¬ st.length=0→st.length≤60→rs.length≤60→tv.length≤60→q4=false→q5=false→q6=false→Q=(q7 && q8):=fun a b c=>hyes a b (fun e=>c (by rw [e];rfl));rw [hq1] at hn1;rw [hq2] at hn2;rw [hq4] at hc1;rw [hq5] at hc2;rw [hq6] at hc3;rw [hq7] at ho1;rw [hq8] at ho2;have HNO:=hd_ hno;have HYES:=hd_ hyes';have HN1:=hd_ hn1;have HN2:=hd_ hn2;have HC1:=hd_ hc1;have HC2:=hd_ hc2;have HC3:=hd_ hc3;have HO1:=hd_ ho1;have HO2:=hd_ ho2;have KX:=hd_ kx;have HB:=hd_ hb;clear hno hyes hyes' hn1 hn2 hc1 hc2 hc3 ho1 ho2 hq1 hq2 hq4 hq5 hq6 hq7 hq8 hse e1 e2 hst hrs hts hfr htn hrn ht kx hb;obtain ⟨l1,hl1⟩:∃ l,st.length=l:=⟨_,rfl⟩;obtain ⟨l2,hl2⟩:∃ l,rs.length=l:=⟨_,rfl⟩;obtain ⟨l3,hl3⟩:∃ l,tv.length=l:=⟨_,rfl⟩;rw [hl1,hl2,hl3] at HNO HYES KX HB ⊢;rw [hl1] at HC1 s1;rw [hl2] at HC2 HO1 s2;rw [hl3] at HC3 HO2 s3;clear hl1 hl2 hl3;obtain ⟨t0,t1,t2⟩:=KX.out.all;go_enter Tryz.func47,Tryz.ntmps47
 go_wp2_with fail
 generalize w.alloc (.cells #[.string fr,.string tn,.slice a1 l1 c1,.slice a2 l2 c2,.slice a3 l3 c3] 30)=W0 at *;have HC:=hd_ (HN1.out W0 HB.out);clear HN1;refine HC.out.mono ?_;rintro e W1 ⟨rfl,bz⟩;have HB2:=hd_ (HB.out.trans (bz.mono HB.out.size));have KX2:=hd_ (KX.out.below bz KX.out.lt);clear bz t0 t1 t2 HB KX HC;obtain ⟨t0,t1,t2⟩:=KX2.out.all;have HB:=HB2;have KX:=KX2;clear HB2 KX2
 cases q1 with
 | false=>
  obtain rfl:Q=false:=HNO.out (.inl rfl);clear HNO HYES HN2 HC1 HC2 HC3 HO1 HO2;go_wp2
  go_ret
  exact ⟨rfl,HB.out⟩
 | true=>
 have HC:=hd_ (HN2.out W1 HB.out);clear HN2;go_wp2_with fail
 refine HC.out.mono ?_;rintro e W2 ⟨rfl,bz⟩;have HB2:=hd_ (HB.out.trans (bz.mono HB.out.size));have KX2:=hd_ (KX.out.below bz KX.out.lt);clear bz t0 t1 t2 HB KX HC;obtain ⟨t0,t1,t2⟩:=KX2.out.all;have HB:=HB2;have KX:=KX2;clear HB2 KX2
 cases q2 with
 | false=>
  obtain rfl:Q=false:=HNO.out (.inr (.inl rfl));clear HNO HYES HC1 HC2 HC3 HO1 HO2;go_wp2
  go_ret
  exact ⟨rfl,HB.out⟩
 | true=>
  by_cases h0:l1=0
  case pos=>
   obtain rfl:Q=false:=HNO.out (.inr (.inr (.inl h0)));subst h0;clear HNO HYES HC1 HC2 HC3 HO1 HO2;go_wp2
   go_ret
   exact ⟨rfl,HB.out⟩
  have d0:((l1:Int) == 0)=false:=beq_eq_false_iff_ne.2 (by omega);have hmx:=fun (ts:Array TypeId) (t:TypeId) (W:World)=>run_max_int3 (P:=Tryz.prog) (w:=W) ts t .i64 .i64 .i64 (l1:Int) (l2:Int) (l3:Int);by_cases hm:l1≤60∧l2≤60∧l3≤60
  case neg=>
   obtain rfl:Q=false:=HNO.out (by omega);obtain ⟨mm,hmm⟩:∃ mm:Int,(if (l3:Int) > (if (l2:Int) > (l1:Int) then (l2:Int) else (l1:Int)) then (l3:Int) else (if (l2:Int) > (l1:Int) then (l2:Int) else (l1:Int)))=mm:=⟨_,rfl⟩;rw [hmm] at hmx;have dm:decide (60<mm)=true:=decide_eq_true (by rw [← hmm];split <;> split <;> omega);clear hmm hm;clear HNO HYES HC1 HC2 HC3 HO1 HO2;go_wp2
   go_ret
   exact ⟨rfl,HB.out⟩
  obtain ⟨mm,hmm⟩:∃ mm:Int,(if (l3:Int) > (if (l2:Int) > (l1:Int) then (l2:Int) else (l1:Int)) then (l3:Int) else (if (l2:Int) > (l1:Int) then (l2:Int) else (l1:Int)))=mm:=⟨_,rfl⟩;rw [hmm] at hmx;have dm:decide (60<mm)=false:=decide_eq_false (by rw [← hmm];split <;> split <;> omega);have HM:=hd_ hm;clear hmm hm h0;have HC:=hd_ (HC1.out W2 HB.out);clear HC1;go_wp2_with fail
  refine HC.out.mono ?_;rintro e W3 ⟨rfl,bz⟩;have HB2:=hd_ (HB.out.trans (bz.mono HB.out.size));have KX2:=hd_ (KX.out.below bz KX.out.lt);clear bz t0 t1 t2 HB KX HC;obtain ⟨t0,t1,t2⟩:=KX2.out.all;have HB:=HB2;have KX:=KX2;clear HB2 KX2;clear dm hmx
  cases q4 with
  | true=>
   obtain rfl:Q=false:=HNO.out (.inr (.inr (.inr (.inr (.inr (.inr (.inl rfl)))))));clear HNO HYES HC2 HC3 HO1 HO2;go_wp2
   go_ret
   exact ⟨rfl,HB.out⟩
  | false=>
  have HC:=hd_ (HC2.out W3 HB.out);clear HC2;go_wp2_with fail
  refine HC.out.mono ?_;rintro e W4 ⟨rfl,bz⟩;have HB2:=hd_ (HB.out.trans (bz.mono HB.out.size));have KX2:=hd_ (KX.out.below bz KX.out.lt);clear bz t0 t1 t2 HB KX HC;obtain ⟨t0,t1,t2⟩:=KX2.out.all;have HB:=HB2;have KX:=KX2;clear HB2 KX2
  cases q5 with
  | true=>
   obtain rfl:Q=false:=HNO.out (.inr (.inr (.inr (.inr (.inr (.inr (.inr (.inl rfl))))))));clear HNO HYES HC3 HO1 HO2;go_wp2
   go_ret
   exact ⟨rfl,HB.out⟩
  | false=>
  have HC:=hd_ (HC3.out W4 HB.out);clear HC3;go_wp2_with fail
  refine HC.out.mono ?_;rintro e W5 ⟨rfl,bz⟩;have HB2:=hd_ (HB.out.trans (bz.mono HB.out.size));have KX2:=hd_ (KX.out.below bz KX.out.lt);clear bz t0 t1 t2 HB KX HC;obtain ⟨t0,t1,t2⟩:=KX2.out.all;have HB:=HB2;have KX:=KX2;clear HB2 KX2
  cases q6 with
  | true=>
   obtain rfl:Q=false:=HNO.out (.inr (.inr (.inr (.inr (.inr (.inr (.inr (.inr rfl))))))));clear HNO HYES HO1 HO2;go_wp2
   go_ret
   exact ⟨rfl,HB.out⟩
  | false=>
  have hQ:Q=(q7 && q8):=HYES.out (by trivial) (by trivial) (by intro e;rw [e] at d0;cases d0) HM.out.1 HM.out.2.1 HM.out.2.2 (by trivial) (by trivial) (by trivial);clear HYES HNO HM;have HC:=hd_ (HO1.out W5 HB.out);clear HO1;go_wp2_with fail
  refine HC.out.mono ?_;rintro e W6 ⟨rfl,bz⟩;have HB2:=hd_ (HB.out.trans (bz.mono HB.out.size));have KX2:=hd_ (KX.out.below bz KX.out.lt);clear bz t0 t1 t2 HB KX HC;obtain ⟨t0,t1,t2⟩:=KX2.out.all;have HB:=HB2;have KX:=KX2;clear HB2 KX2
  cases q7 with
  | false=>
   obtain rfl:Q=false:=hQ;clear HO2;go_wp2
   go_ret
   exact ⟨rfl,HB.out⟩
  | true=>
  obtain rfl:Q=q8:=hQ;have HC:=hd_ (HO2.out W6 HB.out);clear HO2;go_wp2_with fail
  refine HC.out.mono ?_;rintro e W7 ⟨rfl,bz⟩;have HB2:=hd_ (HB.out.trans (bz.mono HB.out.size));have KX2:=hd_ (KX.out.below bz KX.out.lt);clear bz t0 t1 t2 HB KX HC;obtain ⟨t0,t1,t2⟩:=KX2.out.all;have HB:=HB2;have KX:=KX2;clear HB2 KX2;go_wp2
  go_ret
  exact ⟨rfl,HB.out⟩
def PSv (w V:World):Prop:=Below w.heap.size w V
theorem PSv.go {w V V2:World} (h:PSv w V) (hb:Below V.heap.size V V2):PSv w V2:=Below.trans h (hb.mono (Below.size h))
theorem below_drewM (W:World):Below W.heap.size W W.drew:=⟨rfl,rfl,rfl,Nat.le_refl _,fun _ _=>rfl⟩
theorem vd_no {g:Mg} {p q:Pc} (h:mgB g=false∨pcB p=false∨pcB q=false∨¬ g.fr=p.name∨¬ g.tn=q.name∨¬ g.st.length=p.ss.length):vdB g p q=false:=by
 cases hv:vdB g p q with
 | false=>rfl
 | true=>
  obtain ⟨h1,h2,h3,h4,h5,h6,-⟩:=vdB_iff.1 hv;exfalso;rcases h with h | h | h | h | h | h
  · rw [h1] at h;cases h
  · rw [h2] at h;cases h
  · rw [h3] at h;cases h
  · exact h h4
  · exact h h5
  · exact h h6
theorem vd_yes {g:Mg} {p q:Pc} {a:Int} (h1:mgB g=true) (h2:pcB p=true) (h3:pcB q=true) (h4:g.fr=p.name) (h5:g.tn=q.name) (h6:g.st.length=p.ss.length) (ha:g.st[0]? = some a):vdB g p q=decide (maxI a g.st<(q.ss.length:Int)):=by
 rw [Bool.eq_iff_iff,vdB_iff,decide_eq_true_eq,maxI_lt];exact ⟨fun h=>⟨h.2.2.2.2.2.2 a (List.mem_of_getElem? ha),h.2.2.2.2.2.2⟩,fun h=>⟨h1,h2,h3,h4,h5,h6,h.2⟩⟩
def psV (fr tn:ByteArray) (a1:Option Addr) (l1 c1:Nat) (b1:Option Addr) (e1:Nat) (d1:Option Addr) (m1 f1:Nat) (g0 g1 g2:Nat) (M:Int):List Phi:=[
 isV (.pointer (some ⟨g0,0,none⟩)),
 isV (.string fr),
 isV (.pointer (some ⟨g1,0,none⟩)),
 isV (.string fr),
 isV (.bool true),
 isV (.bool true),
 isV (.pointer (some ⟨g0,1,none⟩)),
 isV (.string tn),
 isV (.pointer (some ⟨g2,0,none⟩)),
 isV (.string tn),
 isV (.bool true),
 isV (.bool true),
 isV (.bool true),
 isV (.pointer (some ⟨g0,2,none⟩)),
 isV (.slice a1 l1 c1),
 isV (.int .i64 (l1:Int)),
 isV (.pointer (some ⟨g1,1,none⟩)),
 isV (.slice b1 l1 e1),
 isV (.int .i64 (l1:Int)),
 isV (.bool true),
 isV (.bool true),
 isV (.bool true),
 isV (.pointer (some ⟨g0,2,none⟩)),
 isV (.slice a1 l1 c1),
 isV (.int .i64 M),
 isV (.pointer (some ⟨g2,1,none⟩)),
 isV (.slice d1 m1 f1),
 isV (.int .i64 (m1:Int)),
 isV (.bool (decide (M<(m1:Int)))),
 isV (.bool (decide (M<(m1:Int)))),
 isV (.bool (decide (M<(m1:Int))))]
theorem gvalid_any (w:World) (ht:Tbs w) (B:Nat) (g:Mg) (x:MgX) (h:MgAt w B g x) (hB:B≤w.heap.size) (hs:SmlG g) (p:Pc) (y:PcX) (hp:PcAt w B p y) (hsp:SmlP p) (q:Pc) (z:PcX) (hq:PcAt w B q z) (hsq:SmlP q) :
 Calls Tryz.prog 18 #[.agg (mgC g x),.agg (pcC p y),.agg (pcC q z)] w fun e w'=>e = .returned (.bool (vdB g p q))∧Below w.heap.size w w':=by
 have hfm:=fun W (hW:Below w.heap.size w W)=>gformed_any W (ht.below hW) B g x (h.below (hW.mono hB)) (Nat.le_trans hB hW.size) hs;have hp1:=fun W (hW:Below w.heap.size w W)=>proper_p W B p y (hp.below (hW.mono hB)) (Nat.le_trans hB hW.size) hsp;have hp2:=fun W (hW:Below w.heap.size w W)=>proper_p W B q z (hq.below (hW.mono hB)) (Nat.le_trans hB hW.size) hsq;have hmx:=fun W (hW:Below w.heap.size w W) a (ha:g.st[0]? = some a)=>max_any W B x.a1 a g.st x.c1 (h.st.below (hW.mono hB)) ha (Nat.le_trans hB hW.size) (by have:=hs.1;omega)
 have hne:mgB g=true→∃ a,g.st[0]? = some a:=fun h1=>by
  obtain ⟨-,-,h3,-⟩:=mgB_iff.1 h1;have:0<g.st.length:=List.length_pos_iff.2 h3.1;exact ⟨_,List.getElem?_eq_getElem this⟩
 have hno := @vd_no g p q;have hyes := @vd_yes g p q;obtain ⟨Q,hQ⟩:∃ Q,vdB g p q=Q:=⟨_,rfl⟩;rw [hQ] at hno hyes ⊢;obtain ⟨q1,hq1⟩:∃ b,mgB g=b:=⟨_,rfl⟩;obtain ⟨q2,hq2⟩:∃ b,pcB p=b:=⟨_,rfl⟩;obtain ⟨q3,hq3⟩:∃ b,pcB q=b:=⟨_,rfl⟩;rw [hq1] at hfm hne;rw [hq2] at hp1;rw [hq3] at hp2;rw [hq1,hq2,hq3] at hno hyes;clear hQ hq1 hq2 hq3 h hp hq ht;obtain ⟨s1,s2,s3⟩:=hs;obtain ⟨fr,tn,st,rs,ts⟩:=g;obtain ⟨a1,c1,a2,c2,a3,c3,tv⟩:=x;obtain ⟨pn,ss,ms⟩:=p;obtain ⟨b1,e1,b2,e2⟩:=y;obtain ⟨qn,rr,nn⟩:=q;obtain ⟨d1,f1,d2,f2⟩:=z;simp only [mgC,pcC] at *;generalize hk1:ss.length=n1 at *;generalize hk2:ms.length=n2 at *;generalize hk3:rr.length=m1 at *;generalize hk4:nn.length=m2 at *;generalize hk5:rs.length=l2 at *;generalize hk6:ts.length=l3 at *;generalize hk7:st.length=l1 at *;clear hk1 hk2 hk3 hk4 hk5 hk6 hk7 hsp hsq;have hb:=((below_self_alloc w (.cells #[.string fr,.string tn,.slice a1 l1 c1,.slice a2 l2 c2,.slice a3 l3 c3] 30)).alloc (by simp) (.cells #[.string pn,.slice b1 n1 e1,.slice b2 n2 e2] 34)).alloc (by simp;omega) (.cells #[.string qn,.slice d1 m1 f1,.slice d2 m2 f2] 34);have k0:=((Blk.new w 30 #[.string fr,.string tn,.slice a1 l1 c1,.slice a2 l2 c2,.slice a3 l3 c3]).alloc (.cells #[.string pn,.slice b1 n1 e1,.slice b2 n2 e2] 34)).alloc (.cells #[.string qn,.slice d1 m1 f1,.slice d2 m2 f2] 34);have k1:=(Blk.new1 w (.cells #[.string fr,.string tn,.slice a1 l1 c1,.slice a2 l2 c2,.slice a3 l3 c3] 30) 34 #[.string pn,.slice b1 n1 e1,.slice b2 n2 e2]).alloc (.cells #[.string qn,.slice d1 m1 f1,.slice d2 m2 f2] 34);have k2:=Blk.new2 w (.cells #[.string fr,.string tn,.slice a1 l1 c1,.slice a2 l2 c2,.slice a3 l3 c3] 30) (.cells #[.string pn,.slice b1 n1 e1,.slice b2 n2 e2] 34) 34 #[.string qn,.slice d1 m1 f1,.slice d2 m2 f2];have HNO:=hd_ hno;have HYES:=hd_ fun a => @hyes a;have HNE:=hd_ hne;have HC1:=hd_ hfm;have HC2:=hd_ hp1;have HC3:=hd_ hp2;have HMX0:=hd_ hmx;have HB:=hd_ hb;have K0:=hd_ k0;have K1:=hd_ k1;have K2:=hd_ k2;clear hno hyes hne hfm hp1 hp2 hmx hb k0 k1 k2;obtain ⟨t0,t1,t2⟩:=K0.out.all;go_enter Tryz.func18,Tryz.ntmps18
 go_wp2_with fail
 generalize ((w.alloc (.cells #[.string fr,.string tn,.slice a1 l1 c1,.slice a2 l2 c2,.slice a3 l3 c3] 30)).alloc (.cells #[.string pn,.slice b1 n1 e1,.slice b2 n2 e2] 34)).alloc (.cells #[.string qn,.slice d1 m1 f1,.slice d2 m2 f2] 34)=W0 at *;have HC:=hd_ (HC1.out W0 HB.out);clear HC1;refine HC.out.mono ?_;rintro e W1 ⟨rfl,bz⟩;have HB2:=hd_ (HB.out.trans (bz.mono HB.out.size));have KX0:=hd_ (K0.out.below bz K0.out.lt);have KX1:=hd_ (K1.out.below bz K1.out.lt);have KX2:=hd_ (K2.out.below bz K2.out.lt);clear bz t0 t1 t2 HB K0 K1 K2 HC;have HB:=HB2;have K0:=KX0;have K1:=KX1;have K2:=KX2;clear HB2 KX0 KX1 KX2;obtain ⟨t0,t1,t2⟩:=K1.out.all
 cases q1 with
 | false=>
  obtain rfl:Q=false:=HNO.out (.inl rfl);clear HNO HYES HNE HC2 HC3 HMX0;go_wp2
  go_ret
  exact ⟨rfl,HB.out⟩
 | true=>
 have HC:=hd_ (HC2.out W1 HB.out);clear HC2;go_wp2_with fail
 refine HC.out.mono ?_;rintro e W2 ⟨rfl,bz⟩;have HB2:=hd_ (HB.out.trans (bz.mono HB.out.size));have KX0:=hd_ (K0.out.below bz K0.out.lt);have KX1:=hd_ (K1.out.below bz K1.out.lt);have KX2:=hd_ (K2.out.below bz K2.out.lt);clear bz t0 t1 t2 HB K0 K1 K2 HC;have HB:=HB2;have K0:=KX0;have K1:=KX1;have K2:=KX2;clear HB2 KX0 KX1 KX2;obtain ⟨t0,t1,t2⟩:=K2.out.all
 cases q2 with
 | false=>
  obtain rfl:Q=false:=HNO.out (.inr (.inl rfl));clear HNO HYES HNE HC3 HMX0;go_wp2
  go_ret
  exact ⟨rfl,HB.out⟩
 | true=>
 have HC:=hd_ (HC3.out W2 HB.out);clear HC3;go_wp2_with fail
 refine HC.out.mono ?_;rintro e W3 ⟨rfl,bz⟩;have HB2:=hd_ (HB.out.trans (bz.mono HB.out.size));have KX0:=hd_ (K0.out.below bz K0.out.lt);have KX1:=hd_ (K1.out.below bz K1.out.lt);have KX2:=hd_ (K2.out.below bz K2.out.lt);clear bz t0 t1 t2 HB K0 K1 K2 HC;have HB:=HB2;have K0:=KX0;have K1:=KX1;have K2:=KX2;clear HB2 KX0 KX1 KX2
 cases q3 with
 | false=>
  obtain rfl:Q=false:=HNO.out (.inr (.inr (.inl rfl)));clear HNO HYES HNE HMX0;go_wp2
  go_ret
  exact ⟨rfl,HB.out⟩
 | true=>
 obtain ⟨r0,r1,r2⟩:=K0.out.all;obtain ⟨u0,u1,u2⟩:=K1.out.all;obtain ⟨v0,v1,v2⟩:=K2.out.all;by_cases hx1:fr=pn
 case neg=>
  obtain rfl:Q=false:=HNO.out (.inr (.inr (.inr (.inl hx1))));have d1:=str_no hx1;clear HNO HYES HNE HMX0 hx1;go_wp2_with fail
  go_quiet (fail)
  go_wp2
  go_ret
  exact ⟨rfl,below_dN HB.out _⟩
 by_cases hx2:tn=qn
 case neg=>
  obtain rfl:Q=false:=HNO.out (.inr (.inr (.inr (.inr (.inl hx2)))));have d1:=str_no hx2;subst hx1;clear HNO HYES HNE HMX0 hx2;go_wp2_with fail
  go_quiet (fail)
  go_wp2
  go_ret
  exact ⟨rfl,below_dN HB.out _⟩
 by_cases hx3:l1=n1
 case neg=>
  obtain rfl:Q=false:=HNO.out (.inr (.inr (.inr (.inr (.inr hx3)))));have d1:((l1:Int) == (n1:Int))=false:=beq_eq_false_iff_ne.2 (by omega);subst hx1;subst hx2;clear HNO HYES HNE HMX0 hx3;go_wp2_with fail
  go_quiet (fail)
  go_wp2
  go_ret
  exact ⟨rfl,below_dN HB.out _⟩
 subst hx1;subst hx2;subst hx3;obtain ⟨a,ha⟩:=HNE.out (by trivial);have hQ:=HYES.out a (by trivial) (by trivial) (by trivial) rfl rfl rfl ha;obtain ⟨M,hM⟩:∃ M,maxI a st=M:=⟨_,rfl⟩;rw [hM] at hQ
 have hmx:∀ V,PSv W3 V→Calls Tryz.prog 48 #[.slice a1 l1 c1] V fun e w'=>e = .returned (.int .i64 M)∧w'=V:=fun V hV=>by
  have:=HMX0.out V (HB.out.trans (Below.mono hV HB.out.size)) a ha;rw [hM] at this;exact this
 have hrd:∀ V,PSv W3 V→(∀ i,V.cell? ⟨w.heap.size,i,none⟩=(#[.string fr,.string tn,.slice a1 l1 c1,.slice a2 l2 c2,.slice a3 l3 c3]:Array Value)[i]?)∧(∀ i,V.cell? ⟨w.heap.size+1,i,none⟩=(#[.string fr,.slice b1 l1 e1,.slice b2 n2 e2]:Array Value)[i]?)∧(∀ i,V.cell? ⟨w.heap.size+1+1,i,none⟩=(#[.string tn,.slice d1 m1 f1,.slice d2 m2 f2]:Array Value)[i]?):=fun V hV=>
  ⟨(K0.out.below hV K0.out.lt).cell,(K1.out.below hV K1.out.lt).cell,(K2.out.below hV K2.out.lt).cell⟩
 have hbv:∀ V,PSv W3 V→Below w.heap.size w V:=fun V hV=>HB.out.trans (Below.mono hV HB.out.size);have HMX:=hd_ hmx;have HRD:=hd_ hrd;have HBV:=hd_ hbv;have HQ:=hd_ hQ;clear hmx hrd hbv hQ hM ha r0 r1 r2 u0 u1 u2 v0 v1 v2 HNE HYES HNO HMX0 K0 K1 K2;go_wp2_with fail
 refine wp_region_rg2 (PSv W3) RB (psV fr tn a1 l1 c1 b1 e1 d1 m1 f1 w.heap.size (w.heap.size+1) (w.heap.size+1+1) M) [0,1,2,3,4,5,6,7,8,9,10,11,12,13,14,15,16,17,18,19,20,21,22,23,24,25,26,27,28,29,30] (by kernel_rfl) (by kernel_rfl) (by kernel_rfl) (below_drewM W3) ⟨isV_mono _,isV_mono _,isV_mono _,isV_mono _,isV_mono _,isV_mono _,isV_mono _,isV_mono _,isV_mono _,isV_mono _,isV_mono _,isV_mono _,isV_mono _,isV_mono _,isV_mono _,isV_mono _,isV_mono _,isV_mono _,isV_mono _,isV_mono _,isV_mono _,isV_mono _,isV_mono _,isV_mono _,isV_mono _,isV_mono _,isV_mono _,isV_mono _,isV_mono _,isV_mono _,isV_mono _,trivial⟩ ?_;intro F hF;simp only [putAll,List.map_cons,List.map_nil,Act.put,List.setIfInBounds_toArray,List.set_cons_succ,List.set_cons_zero] at hF;have HFX:=hd_ hF;clear hF;refine ⟨fun Q'=>⟨?_,?_,?_,?_,?_,?_,?_,?_,?_,?_,?_,?_,?_,?_,?_,?_,?_,?_,?_,?_,?_,?_,?_,?_,?_,?_,?_,?_,?_,?_,?_,trivial⟩,?_⟩
 · intro u W hS hd hp
   have HS:=hd_ hS;clear hS;rw [HFX.out];clear hd hp;go_wp2_with fail
   exact ⟨_,by rw [HFX.out];simp [upd],rfl,HS.out,Below.refl _ _⟩
 · intro u W hS hd hp
   have HS:=hd_ hS;clear hS;obtain ⟨d0,-⟩:=hd;have e0:u 0 = .pointer (some ⟨w.heap.size,0,none⟩):=d0 rfl;rw [HFX.out];simp only [e0];clear hp d0;obtain ⟨r0,r1,r2⟩:=HRD.out W HS.out;go_wp2_with fail
   exact ⟨_,by rw [HFX.out];simp [upd,e0],rfl,HS.out,Below.refl _ _⟩
 · intro u W hS hd hp
   have HS:=hd_ hS;clear hS;rw [HFX.out];clear hd hp;go_wp2_with fail
   exact ⟨_,by rw [HFX.out];simp [upd],rfl,HS.out,Below.refl _ _⟩
 · intro u W hS hd hp
   have HS:=hd_ hS;clear hS;obtain ⟨d2,-⟩:=hd;have e2:u 2 = .pointer (some ⟨w.heap.size+1,0,none⟩):=d2 rfl;rw [HFX.out];simp only [e2];clear hp d2;obtain ⟨r0,r1,r2⟩:=HRD.out W HS.out;go_wp2_with fail
   exact ⟨_,by rw [HFX.out];simp [upd,e2],rfl,HS.out,Below.refl _ _⟩
 · intro u W hS hd hp
   have HS:=hd_ hS;clear hS;obtain ⟨d1,d3,-⟩:=hd;have e1:u 1 = .string fr:=d1 rfl;have e3:u 3 = .string fr:=d3 rfl;rw [HFX.out];simp only [e1,e3];clear hp d1 d3;go_wp2_with fail
   exact ⟨_,by rw [HFX.out];simp [upd,e1,e3],rfl,HS.out,Below.refl _ _⟩
 · intro u W hS hd hp
   have HS:=hd_ hS;clear hS;obtain ⟨d4,-⟩:=hd;have e4:u 4 = .bool true:=d4 rfl;rw [HFX.out];simp only [e4];clear hp d4;go_wp2_with fail
   exact ⟨_,by rw [HFX.out];simp [upd,e4],rfl,HS.out,Below.refl _ _⟩
 · intro u W hS hd hp
   have HS:=hd_ hS;clear hS;obtain ⟨d5,-⟩:=hd;have e5:u 5 = .bool true:=d5 rfl;rw [HFX.out];simp only [e5];clear hp d5;go_wp2_with fail
   exact ⟨_,by rw [HFX.out];simp [upd,e5],rfl,HS.out,Below.refl _ _⟩
 · intro u W hS hd hp
   have HS:=hd_ hS;clear hS;obtain ⟨d6,d5,-⟩:=hd;have e6:u 6 = .pointer (some ⟨w.heap.size,1,none⟩):=d6 rfl;have e5:u 5 = .bool true:=d5 rfl;rw [HFX.out];simp only [e6,e5];clear hp d6 d5;obtain ⟨r0,r1,r2⟩:=HRD.out W HS.out;go_wp2_with fail
   exact ⟨_,by rw [HFX.out];simp [upd,e6,e5],rfl,HS.out,Below.refl _ _⟩
 · intro u W hS hd hp
   have HS:=hd_ hS;clear hS;obtain ⟨d5,-⟩:=hd;have e5:u 5 = .bool true:=d5 rfl;rw [HFX.out];simp only [e5];clear hp d5;go_wp2_with fail
   exact ⟨_,by rw [HFX.out];simp [upd,e5],rfl,HS.out,Below.refl _ _⟩
 · intro u W hS hd hp
   have HS:=hd_ hS;clear hS;obtain ⟨d8,d5,-⟩:=hd;have e8:u 8 = .pointer (some ⟨w.heap.size+1+1,0,none⟩):=d8 rfl;have e5:u 5 = .bool true:=d5 rfl;rw [HFX.out];simp only [e8,e5];clear hp d8 d5;obtain ⟨r0,r1,r2⟩:=HRD.out W HS.out;go_wp2_with fail
   exact ⟨_,by rw [HFX.out];simp [upd,e8,e5],rfl,HS.out,Below.refl _ _⟩
 · intro u W hS hd hp
   have HS:=hd_ hS;clear hS;obtain ⟨d7,d9,d5,-⟩:=hd;have e7:u 7 = .string tn:=d7 rfl;have e9:u 9 = .string tn:=d9 rfl;have e5:u 5 = .bool true:=d5 rfl;rw [HFX.out];simp only [e7,e9,e5];clear hp d7 d9 d5;go_wp2_with fail
   exact ⟨_,by rw [HFX.out];simp [upd,e7,e9,e5],rfl,HS.out,Below.refl _ _⟩
 · intro u W hS hd hp
   have HS:=hd_ hS;clear hS;obtain ⟨d5,d10,-⟩:=hd;have e5:u 5 = .bool true:=d5 rfl;have e10:u 10 = .bool true:=d10 rfl;rw [HFX.out];simp only [e5,e10];clear hp d5 d10;go_wp2_with fail
   exact ⟨_,by rw [HFX.out];simp [upd,e5,e10],rfl,HS.out,Below.refl _ _⟩
 · intro u W hS hd hp
   have HS:=hd_ hS;clear hS;obtain ⟨d11,-⟩:=hd;have e11:u 11 = .bool true:=d11 rfl;rw [HFX.out];simp only [e11];clear hp d11;go_wp2_with fail
   exact ⟨_,by rw [HFX.out];simp [upd,e11],rfl,HS.out,Below.refl _ _⟩
 · intro u W hS hd hp
   have HS:=hd_ hS;clear hS;obtain ⟨d12,-⟩:=hd;have e12:u 12 = .bool true:=d12 rfl;rw [HFX.out];simp only [e12];clear hp d12;go_wp2_with fail
   exact ⟨_,by rw [HFX.out];simp [upd,e12],rfl,HS.out,Below.refl _ _⟩
 · intro u W hS hd hp
   have HS:=hd_ hS;clear hS;obtain ⟨d13,d12,-⟩:=hd;have e13:u 13 = .pointer (some ⟨w.heap.size,2,none⟩):=d13 rfl;have e12:u 12 = .bool true:=d12 rfl;rw [HFX.out];simp only [e13,e12];clear hp d13 d12;obtain ⟨r0,r1,r2⟩:=HRD.out W HS.out;go_wp2_with fail
   exact ⟨_,by rw [HFX.out];simp [upd,e13,e12],rfl,HS.out,Below.refl _ _⟩
 · intro u W hS hd hp
   have HS:=hd_ hS;clear hS;obtain ⟨d14,d12,-⟩:=hd;have e14:u 14 = .slice a1 l1 c1:=d14 rfl;have e12:u 12 = .bool true:=d12 rfl;rw [HFX.out];simp only [e14,e12];clear hp d14 d12;go_wp2_with fail
   exact ⟨_,by rw [HFX.out];simp [upd,e14,e12],rfl,HS.out,Below.refl _ _⟩
 · intro u W hS hd hp
   have HS:=hd_ hS;clear hS;obtain ⟨d12,-⟩:=hd;have e12:u 12 = .bool true:=d12 rfl;rw [HFX.out];simp only [e12];clear hp d12;go_wp2_with fail
   exact ⟨_,by rw [HFX.out];simp [upd,e12],rfl,HS.out,Below.refl _ _⟩
 · intro u W hS hd hp
   have HS:=hd_ hS;clear hS;obtain ⟨d16,d12,-⟩:=hd;have e16:u 16 = .pointer (some ⟨w.heap.size+1,1,none⟩):=d16 rfl;have e12:u 12 = .bool true:=d12 rfl;rw [HFX.out];simp only [e16,e12];clear hp d16 d12;obtain ⟨r0,r1,r2⟩:=HRD.out W HS.out;go_wp2_with fail
   exact ⟨_,by rw [HFX.out];simp [upd,e16,e12],rfl,HS.out,Below.refl _ _⟩
 · intro u W hS hd hp
   have HS:=hd_ hS;clear hS;obtain ⟨d17,d12,-⟩:=hd;have e17:u 17 = .slice b1 l1 e1:=d17 rfl;have e12:u 12 = .bool true:=d12 rfl;rw [HFX.out];simp only [e17,e12];clear hp d17 d12;go_wp2_with fail
   exact ⟨_,by rw [HFX.out];simp [upd,e17,e12],rfl,HS.out,Below.refl _ _⟩
 · intro u W hS hd hp
   have HS:=hd_ hS;clear hS;obtain ⟨d15,d18,d12,-⟩:=hd;have e15:u 15 = .int .i64 (l1:Int):=d15 rfl;have e18:u 18 = .int .i64 (l1:Int):=d18 rfl;have e12:u 12 = .bool true:=d12 rfl;rw [HFX.out];simp only [e15,e18,e12];clear hp d15 d18 d12;go_wp2_with fail
   exact ⟨_,by rw [HFX.out];simp [upd,e15,e18,e12],rfl,HS.out,Below.refl _ _⟩
 · intro u W hS hd hp
   have HS:=hd_ hS;clear hS;obtain ⟨d12,d19,-⟩:=hd;have e12:u 12 = .bool true:=d12 rfl;have e19:u 19 = .bool true:=d19 rfl;rw [HFX.out];simp only [e12,e19];clear hp d12 d19;go_wp2_with fail
   exact ⟨_,by rw [HFX.out];simp [upd,e12,e19],rfl,HS.out,Below.refl _ _⟩
 · intro u W hS hd hp
   have HS:=hd_ hS;clear hS;obtain ⟨d20,-⟩:=hd;have e20:u 20 = .bool true:=d20 rfl;rw [HFX.out];simp only [e20];clear hp d20;go_wp2_with fail
   exact ⟨_,by rw [HFX.out];simp [upd,e20],rfl,HS.out,Below.refl _ _⟩
 · intro u W hS hd hp
   have HS:=hd_ hS;clear hS;obtain ⟨d21,-⟩:=hd;have e21:u 21 = .bool true:=d21 rfl;rw [HFX.out];simp only [e21];clear hp d21;go_wp2_with fail
   exact ⟨_,by rw [HFX.out];simp [upd,e21],rfl,HS.out,Below.refl _ _⟩
 · intro u W hS hd hp
   have HS:=hd_ hS;clear hS;obtain ⟨d22,d21,-⟩:=hd;have e22:u 22 = .pointer (some ⟨w.heap.size,2,none⟩):=d22 rfl;have e21:u 21 = .bool true:=d21 rfl;rw [HFX.out];simp only [e22,e21];clear hp d22 d21;obtain ⟨r0,r1,r2⟩:=HRD.out W HS.out;go_wp2_with fail
   exact ⟨_,by rw [HFX.out];simp [upd,e22,e21],rfl,HS.out,Below.refl _ _⟩
 · intro u W hS hd hp
   have HS:=hd_ hS;clear hS;obtain ⟨d23,_,d21,-⟩:=hd;have e23:u 23 = .slice a1 l1 c1:=d23 rfl;have e21:u 21 = .bool true:=d21 rfl;rw [HFX.out];simp only [e23,e21];clear hp d23 d21;go_wp2_with fail
   refine (HMX.out W HS.out).mono ?_;rintro e W2 ⟨rfl,rfl⟩;go_wp2_with fail
   exact ⟨_,by rw [HFX.out];simp [upd,e23,e21],rfl,HS.out,Below.refl _ _⟩
 · intro u W hS hd hp
   have HS:=hd_ hS;clear hS;obtain ⟨d21,-⟩:=hd;have e21:u 21 = .bool true:=d21 rfl;rw [HFX.out];simp only [e21];clear hp d21;go_wp2_with fail
   exact ⟨_,by rw [HFX.out];simp [upd,e21],rfl,HS.out,Below.refl _ _⟩
 · intro u W hS hd hp
   have HS:=hd_ hS;clear hS;obtain ⟨d25,d21,-⟩:=hd;have e25:u 25 = .pointer (some ⟨w.heap.size+1+1,1,none⟩):=d25 rfl;have e21:u 21 = .bool true:=d21 rfl;rw [HFX.out];simp only [e25,e21];clear hp d25 d21;obtain ⟨r0,r1,r2⟩:=HRD.out W HS.out;go_wp2_with fail
   exact ⟨_,by rw [HFX.out];simp [upd,e25,e21],rfl,HS.out,Below.refl _ _⟩
 · intro u W hS hd hp
   have HS:=hd_ hS;clear hS;obtain ⟨d26,d21,-⟩:=hd;have e26:u 26 = .slice d1 m1 f1:=d26 rfl;have e21:u 21 = .bool true:=d21 rfl;rw [HFX.out];simp only [e26,e21];clear hp d26 d21;go_wp2_with fail
   exact ⟨_,by rw [HFX.out];simp [upd,e26,e21],rfl,HS.out,Below.refl _ _⟩
 · intro u W hS hd hp
   have HS:=hd_ hS;clear hS;obtain ⟨d24,d27,d21,-⟩:=hd;have e24:u 24 = .int .i64 M:=d24 rfl;have e27:u 27 = .int .i64 (m1:Int):=d27 rfl;have e21:u 21 = .bool true:=d21 rfl;rw [HFX.out];simp only [e24,e27,e21];clear hp d24 d27 d21;go_wp2_with fail
   exact ⟨_,by rw [HFX.out];simp [upd,e24,e27,e21],rfl,HS.out,Below.refl _ _⟩
 · intro u W hS hd hp
   have HS:=hd_ hS;clear hS;obtain ⟨d21,d28,-⟩:=hd;have e21:u 21 = .bool true:=d21 rfl;have e28:u 28 = .bool (decide (M<(m1:Int))):=d28 rfl;rw [HFX.out];simp only [e21,e28];clear hp d21 d28;go_wp2_with fail
   exact ⟨_,by rw [HFX.out];simp [upd,e21,e28],rfl,HS.out,Below.refl _ _⟩
 · intro u W hS hd hp
   have HS:=hd_ hS;clear hS;obtain ⟨d29,-⟩:=hd;have e29:u 29 = .bool (decide (M<(m1:Int))):=d29 rfl;rw [HFX.out];simp only [e29];clear hp d29;go_wp2_with fail
   exact ⟨_,by rw [HFX.out];simp [upd,e29],rfl,HS.out,Below.refl _ _⟩
 intro u W hS hf;have e30:u 30 = .bool (decide (M<(m1:Int))):=hf 30 (by decide);have hbf:=HBV.out W hS;have hqq:=HQ.out;rw [HFX.out];simp only [e30];clear hf HFX F hS e30 HRD HBV HMX HQ;subst hqq;go_wp2
 go_ret
 exact ⟨rfl,hbf⟩
end Go.Proofs.YtknchlpcpgflkaaGreatDoor
