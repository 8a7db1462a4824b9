import Derived.Test.YtknchlpcpgflkaaGreatDoorKGAV
import Derived.Test.YtknchlpcpgflkaaGreatDoorKGBB
import Derived.Test.YtknchlpcpgflkaaGreatDoorKGAU
import Derived.Test.YtknchlpcpgflkaaGreatDoorKGBD
set_option maxRecDepth 100000
set_option maxHeartbeats 16000000
namespace Go.Proofs.YtknchlpcpgflkaaGreatDoor
open Go.RowKit Go.Shelf
theorem named_found {rs:List S2} {n:ByteArray} {k:Nat} {x:S2} (h:rs[k]? = some x) (hx:x.1=n) (hn:∀ r∈rs.take k,¬ r.1=n):namedL rs n=x.2:=by
 unfold namedL
 have:(rs.find? fun r=>decide (r.1=n))=some x:=by
  rw [List.find?_eq_some_iff_getElem];obtain ⟨hk,he⟩:=List.getElem?_eq_some_iff.1 h;refine ⟨decide_eq_true hx,k,hk,he,fun j hj=>?_⟩;have:=hn (rs[j]'(by omega)) (List.mem_iff_getElem.2 ⟨j,by rw [List.length_take];omega,by rw [List.getElem_take]⟩);simpa using this
 rw [this]
theorem named_no {rs:List S2} {n:ByteArray} (hn:∀ r∈rs,¬ r.1=n):namedL rs n=n:=by
 unfold namedL
 have:(rs.find? fun r=>decide (r.1=n))=none:=by
  rw [List.find?_eq_none];intro r hr he;exact hn r hr (of_decide_eq_true he)
 rw [this]
def termI (ts:List Lm) (n:ByteArray):Int:=match ts.findIdx? fun t=>decide (t.id=n) with
 | some i=>(i:Int)
 | none => -1
theorem termI_found {ts:List Lm} {n:ByteArray} {k:Nat} {x:Lm} (h:ts[k]? = some x) (hx:x.id=n) (hn:∀ r∈ts.take k,¬ r.id=n):termI ts n=(k:Int):=by
 unfold termI
 have:(ts.findIdx? fun t=>decide (t.id=n))=some k:=by
  rw [List.findIdx?_eq_some_iff_getElem];obtain ⟨hk,he⟩:=List.getElem?_eq_some_iff.1 h;refine ⟨hk,by rw [he];exact decide_eq_true hx,fun j hj=>?_⟩;have:=hn (ts[j]'(by omega)) (List.mem_iff_getElem.2 ⟨j,by rw [List.length_take];omega,by rw [List.getElem_take]⟩);simpa using this
 rw [this]
theorem termI_no {ts:List Lm} {n:ByteArray} (hn:∀ r∈ts,¬ r.id=n):termI ts n = -1:=by
 unfold termI
 have:(ts.findIdx? fun t=>decide (t.id=n))=none:=by
  rw [List.findIdx?_eq_none_iff];intro r hr;exact decide_eq_false (hn r hr)
 rw [this]
theorem lv_at {tv:List LmV} {ts:List Lm} (h:tv.map (·.1)=ts) {k:Nat} {x:LmV} (hx:tv[k]? = some x):ts[k]? = some x.1:=by rw [← h,List.getElem?_map,hx];rfl
theorem lv_take {tv:List LmV} {ts:List Lm} (h:tv.map (·.1)=ts) (k:Nat) (n:ByteArray) (hn:∀ r∈tv.take k,¬ r.1.id=n):∀ r∈ts.take k,¬ r.id=n:=by
 intro r hr;rw [← h,← List.map_take] at hr;obtain ⟨y,hy,rfl⟩:=List.mem_map.1 hr;exact hn y hy
theorem rnamed32_any (w:World) (B:Nat) (g:Mg) (x:MgX) (h:PrsAt w B x.a2 g.rs) (hB:B≤w.heap.size) (hs:g.rs.length≤4611686018427387904) (n:ByteArray) :
 Calls Tryz.prog 21 #[.agg (mgC g x),.string n] w fun e w'=>e = .returned (.string (namedL g.rs n))∧Below w.heap.size w w':=by
 obtain ⟨fr,tn,st,rs,ts⟩:=g;obtain ⟨a1,c1,a2,c2,a3,c3,tv⟩:=x;simp only at *;show Calls Tryz.prog 21 #[.agg #[.string fr,.string tn,.slice a1 st.length c1,.slice a2 rs.length c2,.slice a3 ts.length c3],.string n] w _;obtain ⟨q,hq⟩:∃ q,namedL rs n=q:=⟨_,rfl⟩;rw [hq];have HQ:=hd_ hq;have hb:=below_self_alloc w (.cells #[.string fr,.string tn,.slice a1 st.length c1,.slice a2 rs.length c2,.slice a3 ts.length c3] 30);have kx:=Blk.new w 30 #[.string fr,.string tn,.slice a1 st.length c1,.slice a2 rs.length c2,.slice a3 ts.length c3];have HH:=hd_ (h.below (hb.mono hB));clear hq h;obtain ⟨t0,t1,t2⟩:=kx.all;go_enter Tryz.func21,Tryz.ntmps21
 go_wp2_with fail
 generalize w.alloc (.cells #[.string fr,.string tn,.slice a1 st.length c1,.slice a2 rs.length c2,.slice a3 ts.length c3] 30)=W at *;have HB:=hd_ hb;clear hb kx;go_loop [5] (fun i=>∃ k:Nat,k≤rs.length∧i = .int .i64 (k:Int)∧Hid (∀ r∈rs.take k,¬ r.1=n)) (fun i=>rs.length - (intOf i).toNat)
 case atStart=>exact ⟨0,Nat.zero_le _,rfl,hd_ (by simp)⟩
 case round=>
  obtain ⟨k,hk,rfl,HT⟩:=hrel;by_cases hlt:k<rs.length
  · obtain ⟨x,hx⟩:∃ x,rs[k]? = some x:=⟨_,List.getElem?_eq_getElem hlt⟩
    obtain ⟨g,off,hA,hg,p0,p1⟩:=HH.out k x hx;subst hA;have ib0:(0:Int)≤(k:Int):=by omega
    have ib1:(k:Int)<(rs.length:Int):=by omega
    have HX:=hd_ hx;clear hx;by_cases h1:x.1=n
    · have hfin:x.2=q:=by
       rw [← HQ.out];exact (named_found HX.out h1 HT.out).symm
      subst hfin;subst h1;go_wp2_with fail
      go_ret
      exact ⟨rfl,HB.out⟩
    · have HT2:Hid (∀ r∈rs.take (k+1),¬ r.1=n):=hd_ (by
       rw [take_snoc' HX.out];intro r hr;rcases List.mem_append.1 hr with h2 | h2
       · exact HT.out r h2
       · have:r=x:=by simpa using h2
         exact this▸h1)
      have e3:=str_no h1;clear h1;go_wp2_with fail
      go_round
      case rel=>exact ⟨k+1,by omega,by go_num,HT2⟩
      case measure=>simp [intOf];omega
  · obtain rfl:k=rs.length:=by omega
    have hfin:n=q:=by
     rw [← HQ.out];have hno:=HT.out;rw [List.take_length] at hno;exact (named_no hno).symm
    subst hfin;go_wp2
    go_ret
    exact ⟨rfl,HB.out⟩
theorem rterm32_any (w:World) (B:Nat) (g:Mg) (x:MgX) (h:LmsAt w B x.a3 x.tv) (hl:g.ts.length=x.tv.length) (hB:B≤w.heap.size) (hs:g.ts.length≤4611686018427387904) (n:ByteArray) :
 Calls Tryz.prog 56 #[.agg (mgC g x),.string n] w fun e w'=>e = .returned (.int .i64 (termI (x.tv.map (·.1)) n))∧Below w.heap.size w w':=by
 obtain ⟨fr,tn,st,rs,ts⟩:=g;obtain ⟨a1,c1,a2,c2,a3,c3,tv⟩:=x;simp only at *;rw [show mgC ⟨fr,tn,st,rs,ts⟩ ⟨a1,c1,a2,c2,a3,c3,tv⟩=#[.string fr,.string tn,.slice a1 st.length c1,.slice a2 rs.length c2,.slice a3 tv.length c3] from by rw [← hl];rfl];rw [hl] at hs;clear hl;show Calls Tryz.prog 56 #[.agg #[.string fr,.string tn,.slice a1 st.length c1,.slice a2 rs.length c2,.slice a3 tv.length c3],.string n] w _;obtain ⟨q,hq⟩:∃ q,termI (tv.map (·.1)) n=q:=⟨_,rfl⟩;rw [hq];have HQ:=hd_ hq;have hb:=below_self_alloc w (.cells #[.string fr,.string tn,.slice a1 st.length c1,.slice a2 rs.length c2,.slice a3 tv.length c3] 30);have kx:=Blk.new w 30 #[.string fr,.string tn,.slice a1 st.length c1,.slice a2 rs.length c2,.slice a3 tv.length c3];have HH:=hd_ (h.below (hb.mono hB));clear hq h;obtain ⟨t0,t1,t2⟩:=kx.all;go_enter Tryz.func56,Tryz.ntmps56
 go_wp2_with fail
 generalize w.alloc (.cells #[.string fr,.string tn,.slice a1 st.length c1,.slice a2 rs.length c2,.slice a3 tv.length c3] 30)=W at *;have HB:=hd_ hb;clear hb kx;go_loop [5] (fun i=>∃ k:Nat,k≤tv.length∧i = .int .i64 (k:Int)∧Hid (∀ r∈tv.take k,¬ r.1.id=n)) (fun i=>tv.length - (intOf i).toNat)
 case atStart=>exact ⟨0,Nat.zero_le _,rfl,hd_ (by simp)⟩
 case round=>
  obtain ⟨k,hk,rfl,HT⟩:=hrel;by_cases hlt:k<tv.length
  · obtain ⟨x,hx⟩:∃ x,tv[k]? = some x:=⟨_,List.getElem?_eq_getElem hlt⟩
    obtain ⟨g,off,hA,hg,p0,p1,p2,p3,p4,-⟩:=HH.out k x hx;subst hA;have ib0:(0:Int)≤(k:Int):=by omega
    have ib1:(k:Int)<(tv.length:Int):=by omega
    have HX:=hd_ hx;clear hx;by_cases h1:x.1.id=n
    · have hfin:((k:Nat):Int)=q:=by
       rw [← HQ.out];exact (termI_found (lv_at rfl HX.out) h1 (lv_take rfl k n HT.out)).symm
      subst hfin;subst h1;go_wp2_with fail
      go_ret
      exact ⟨rfl,HB.out⟩
    · have HT2:Hid (∀ r∈tv.take (k+1),¬ r.1.id=n):=hd_ (by
       rw [take_snoc' HX.out];intro r hr;rcases List.mem_append.1 hr with h2 | h2
       · exact HT.out r h2
       · have:r=x:=by simpa using h2
         exact this▸h1)
      have e3:=str_no h1;clear h1;go_wp2_with fail
      go_round
      case rel=>exact ⟨k+1,by omega,by go_num,HT2⟩
      case measure=>simp [intOf];omega
  · obtain rfl:k=tv.length:=by omega
    have hfin:(-1:Int)=q:=by
     rw [← HQ.out];have hno:=HT.out;rw [List.take_length] at hno
     exact (termI_no fun r hr=>by
      obtain ⟨y,hy,rfl⟩:=List.mem_map.1 hr;exact hno y hy).symm
    subst hfin;go_wp2
    go_ret
    exact ⟨rfl,HB.out⟩
theorem rints32_any (w:World) (B:Nat) (A A':Option Addr) (l l':List Int) (c c':Nat) (h:IntsAt w B A l) (h':IntsAt w B A' l') (hB:B≤w.heap.size) (hs:l.length≤4611686018427387904) :
 Calls Tryz.prog 22 #[.slice A l.length c,.slice A' l'.length c'] w fun e w'=>e = .returned (.bool (decide (l=l')))∧Below w.heap.size w w':=by
 obtain ⟨q,hq⟩:∃ q,decide (l=l')=q:=⟨_,rfl⟩;rw [hq];have HQ:=hd_ hq;have HH:=hd_ h;have HH':=hd_ h';clear hq h h';by_cases hl:l.length=l'.length
 case neg=>
  obtain rfl:false=q:=by
   rw [← HQ.out];exact (decide_eq_false fun e=>hl (by rw [e])).symm
  have d0:((l.length:Int) == (l'.length:Int))=false:=beq_eq_false_iff_ne.2 (by omega);go_enter Tryz.func22,Tryz.ntmps22
  go_wp2
  go_ret
  exact ⟨rfl,Below.refl _ _⟩
 obtain ⟨n,hn⟩:∃ n,l'.length=n:=⟨_,rfl⟩;rw [hn];have hln:l.length=n:=hl.trans hn;have HN:=hd_ hn;have HL:=hd_ hln;rw [hln] at hs ⊢;clear hn hln hl;go_enter Tryz.func22,Tryz.ntmps22
 go_wp2_with fail
 go_loopw [5] (fun i wr=>∃ k:Nat,k≤n∧i = .int .i64 (k:Int)∧Hid (l.take k=l'.take k)∧Below w.heap.size w wr) (fun i _=>n - (intOf i).toNat)
 case atStart=>exact ⟨0,Nat.zero_le _,rfl,hd_ rfl,Below.refl _ _⟩
 case round=>
  obtain ⟨k,hk,rfl,HT,hb⟩:=hrel;by_cases hlt:k<n
  · obtain ⟨x,hx⟩:∃ x,l[k]? = some x:=⟨_,List.getElem?_eq_getElem (by have:=HL.out;omega)⟩
    obtain ⟨y,hy⟩:∃ y,l'[k]? = some y:=⟨_,List.getElem?_eq_getElem (by have:=HN.out;omega)⟩;obtain ⟨g,off,hA,hg,p0⟩:=(HH.out.below (hb.mono hB)) k x hx;obtain ⟨g',off',hA',hg',p0'⟩:=(HH'.out.below (hb.mono hB)) k y hy;subst hA hA';have HX:=hd_ hx;have HY:=hd_ hy;clear hx hy;have HBB:=hd_ hb;clear hb;by_cases h1:x=y
    · have HT2:Hid (l.take (k+1)=l'.take (k+1)):=hd_ (by rw [take_snoc' HX.out,take_snoc' HY.out,HT.out,h1])
      subst h1;go_wp2_with fail
      go_quiet (fail)
      go_wp2
      go_roundw
      case rel=>exact ⟨k+1,by omega,by go_num,HT2,below_dN HBB.out _⟩
      case measure=>simp [intOf];omega
    · have d0:(x == y)=false:=beq_eq_false_iff_ne.2 h1
      obtain rfl:false=q:=by
       rw [← HQ.out];refine (decide_eq_false fun e=>h1 ?_).symm;have h2:=HX.out;rw [e,HY.out] at h2;exact (Option.some.inj h2).symm
      clear h1;go_wp2_with fail
      go_quiet (fail)
      go_wp2
      go_ret
      exact ⟨rfl,below_dN HBB.out _⟩
  · obtain rfl:k=n:=by omega
    obtain rfl:true=q:=by
     rw [← HQ.out];refine (decide_eq_true ?_).symm;have h1:=HT.out;rw [List.take_of_length_le (by have:=HL.out;omega),List.take_of_length_le (by have:=HN.out;omega)] at h1;exact h1
    go_wp2
    go_ret
    exact ⟨rfl,hb⟩
theorem head_any (w:World) (ht:Tbs w):Calls Tryz.prog 10 #[] w fun e w'=>e = .returned (.bool true)∧Below w.heap.size w w':=by
 have hpr:=procedures_any w;have HT:=hd_ ht;clear ht;go_enter Tryz.func10,Tryz.ntmps10
 go_wp2_with fail
 refine hpr.mono ?_;rintro e W1 ⟨⟨p1,q1,p2,q2⟩,⟨p3,q3,p4,q4⟩,he,hP,hQ,b1⟩;obtain rfl:e = .returned (.tuple #[.agg #[.string ⟨#[111,108,100]⟩,.slice p1 3 q1,.slice p2 2 q2],.agg #[.string ⟨#[110,101,120,116]⟩,.slice p3 4 q3,.slice p4 3 q4]]):=he;clear hpr;go_upto_region 4 with fail
 have hb:=(((((((below_self_alloc W1 (.cells #[.string ⟨#[111,108,100]⟩,.slice p1 3 q1,.slice p2 2 q2] 34)).alloc (by simp) (.cells #[.string ⟨#[110,101,120,116]⟩,.slice p3 4 q3,.slice p4 3 q4] 34)).alloc (by simp;omega) (.cells #[.int .i64 0,.int .i64 2,.int .i64 3] 3)).alloc (by simp;omega) (.cells #[.string ⟨#[97,105,100]⟩,.string ⟨#[104,101,108,112]⟩,.string ⟨#[115,117,112,112,111,114,116]⟩,.string ⟨#[104,101,108,112]⟩] 75)).alloc (by simp;omega) (.cells #[.string ⟨#[111,108,100]⟩,.string ⟨#[110,101,120,116]⟩,.slice (some ⟨W1.heap.size+1+1,0,none⟩) 3 3,.slice (some ⟨W1.heap.size+1+1+1,0,none⟩) 2 2,.slice none 0 0] 30)).alloc (by simp;omega) (.cells #[.int .i64 6] 3)).alloc (by simp;omega) (.cells #[.string ⟨#[115,117,112,112,111,114,116]⟩,.int .i64 9,.string ⟨#[97,105,100]⟩,.int .i64 7] 56)).alloc (by simp;omega) (.cells #[.string ⟨#[109]⟩,.int .i64 5,.slice none 0 0,.string ⟨#[111,108,100]⟩,.int .i64 1,.slice (some ⟨W1.heap.size+1+1+1+1+1,0,none⟩) 1 1,.slice (some ⟨W1.heap.size+1+1+1+1+1+1,0,none⟩) 2 2,.slice none 0 0] 27);have hsz:(((((((((W1.alloc (.cells #[.string ⟨#[111,108,100]⟩,.slice p1 3 q1,.slice p2 2 q2] 34)).alloc (.cells #[.string ⟨#[110,101,120,116]⟩,.slice p3 4 q3,.slice p4 3 q4] 34)).alloc (.cells #[.int .i64 0,.int .i64 2,.int .i64 3] 3)).alloc (.cells #[.string ⟨#[97,105,100]⟩,.string ⟨#[104,101,108,112]⟩,.string ⟨#[115,117,112,112,111,114,116]⟩,.string ⟨#[104,101,108,112]⟩] 75)).alloc (.cells #[.string ⟨#[111,108,100]⟩,.string ⟨#[110,101,120,116]⟩,.slice (some ⟨W1.heap.size+1+1,0,none⟩) 3 3,.slice (some ⟨W1.heap.size+1+1+1,0,none⟩) 2 2,.slice none 0 0] 30)).alloc (.cells #[.int .i64 6] 3)).alloc (.cells #[.string ⟨#[115,117,112,112,111,114,116]⟩,.int .i64 9,.string ⟨#[97,105,100]⟩,.int .i64 7] 56)).alloc (.cells #[.string ⟨#[109]⟩,.int .i64 5,.slice none 0 0,.string ⟨#[111,108,100]⟩,.int .i64 1,.slice (some ⟨W1.heap.size+1+1+1+1+1,0,none⟩) 1 1,.slice (some ⟨W1.heap.size+1+1+1+1+1+1,0,none⟩) 2 2,.slice none 0 0] 27))).heap.size=W1.heap.size+1+1+1+1+1+1+1+1:=by simp
 have k0:=(((((((Blk.new W1 34 #[.string ⟨#[111,108,100]⟩,.slice p1 3 q1,.slice p2 2 q2]).alloc (.cells #[.string ⟨#[110,101,120,116]⟩,.slice p3 4 q3,.slice p4 3 q4] 34)).alloc (.cells #[.int .i64 0,.int .i64 2,.int .i64 3] 3)).alloc (.cells #[.string ⟨#[97,105,100]⟩,.string ⟨#[104,101,108,112]⟩,.string ⟨#[115,117,112,112,111,114,116]⟩,.string ⟨#[104,101,108,112]⟩] 75)).alloc (.cells #[.string ⟨#[111,108,100]⟩,.string ⟨#[110,101,120,116]⟩,.slice (some ⟨W1.heap.size+1+1,0,none⟩) 3 3,.slice (some ⟨W1.heap.size+1+1+1,0,none⟩) 2 2,.slice none 0 0] 30)).alloc (.cells #[.int .i64 6] 3)).alloc (.cells #[.string ⟨#[115,117,112,112,111,114,116]⟩,.int .i64 9,.string ⟨#[97,105,100]⟩,.int .i64 7] 56)).alloc (.cells #[.string ⟨#[109]⟩,.int .i64 5,.slice none 0 0,.string ⟨#[111,108,100]⟩,.int .i64 1,.slice (some ⟨W1.heap.size+1+1+1+1+1,0,none⟩) 1 1,.slice (some ⟨W1.heap.size+1+1+1+1+1+1,0,none⟩) 2 2,.slice none 0 0] 27);have k1:=((((((Blk.new (W1.alloc (.cells #[.string ⟨#[111,108,100]⟩,.slice p1 3 q1,.slice p2 2 q2] 34)) 34 #[.string ⟨#[110,101,120,116]⟩,.slice p3 4 q3,.slice p4 3 q4]).alloc (.cells #[.int .i64 0,.int .i64 2,.int .i64 3] 3)).alloc (.cells #[.string ⟨#[97,105,100]⟩,.string ⟨#[104,101,108,112]⟩,.string ⟨#[115,117,112,112,111,114,116]⟩,.string ⟨#[104,101,108,112]⟩] 75)).alloc (.cells #[.string ⟨#[111,108,100]⟩,.string ⟨#[110,101,120,116]⟩,.slice (some ⟨W1.heap.size+1+1,0,none⟩) 3 3,.slice (some ⟨W1.heap.size+1+1+1,0,none⟩) 2 2,.slice none 0 0] 30)).alloc (.cells #[.int .i64 6] 3)).alloc (.cells #[.string ⟨#[115,117,112,112,111,114,116]⟩,.int .i64 9,.string ⟨#[97,105,100]⟩,.int .i64 7] 56)).alloc (.cells #[.string ⟨#[109]⟩,.int .i64 5,.slice none 0 0,.string ⟨#[111,108,100]⟩,.int .i64 1,.slice (some ⟨W1.heap.size+1+1+1+1+1,0,none⟩) 1 1,.slice (some ⟨W1.heap.size+1+1+1+1+1+1,0,none⟩) 2 2,.slice none 0 0] 27);rw [show ((W1.alloc (.cells #[.string ⟨#[111,108,100]⟩,.slice p1 3 q1,.slice p2 2 q2] 34))).heap.size=W1.heap.size+1 from by simp] at k1;have k2:=(((((Blk.new ((W1.alloc (.cells #[.string ⟨#[111,108,100]⟩,.slice p1 3 q1,.slice p2 2 q2] 34)).alloc (.cells #[.string ⟨#[110,101,120,116]⟩,.slice p3 4 q3,.slice p4 3 q4] 34)) 3 #[.int .i64 0,.int .i64 2,.int .i64 3]).alloc (.cells #[.string ⟨#[97,105,100]⟩,.string ⟨#[104,101,108,112]⟩,.string ⟨#[115,117,112,112,111,114,116]⟩,.string ⟨#[104,101,108,112]⟩] 75)).alloc (.cells #[.string ⟨#[111,108,100]⟩,.string ⟨#[110,101,120,116]⟩,.slice (some ⟨W1.heap.size+1+1,0,none⟩) 3 3,.slice (some ⟨W1.heap.size+1+1+1,0,none⟩) 2 2,.slice none 0 0] 30)).alloc (.cells #[.int .i64 6] 3)).alloc (.cells #[.string ⟨#[115,117,112,112,111,114,116]⟩,.int .i64 9,.string ⟨#[97,105,100]⟩,.int .i64 7] 56)).alloc (.cells #[.string ⟨#[109]⟩,.int .i64 5,.slice none 0 0,.string ⟨#[111,108,100]⟩,.int .i64 1,.slice (some ⟨W1.heap.size+1+1+1+1+1,0,none⟩) 1 1,.slice (some ⟨W1.heap.size+1+1+1+1+1+1,0,none⟩) 2 2,.slice none 0 0] 27);rw [show (((W1.alloc (.cells #[.string ⟨#[111,108,100]⟩,.slice p1 3 q1,.slice p2 2 q2] 34)).alloc (.cells #[.string ⟨#[110,101,120,116]⟩,.slice p3 4 q3,.slice p4 3 q4] 34))).heap.size=W1.heap.size+1+1 from by simp] at k2;have k3:=((((Blk.new (((W1.alloc (.cells #[.string ⟨#[111,108,100]⟩,.slice p1 3 q1,.slice p2 2 q2] 34)).alloc (.cells #[.string ⟨#[110,101,120,116]⟩,.slice p3 4 q3,.slice p4 3 q4] 34)).alloc (.cells #[.int .i64 0,.int .i64 2,.int .i64 3] 3)) 75 #[.string ⟨#[97,105,100]⟩,.string ⟨#[104,101,108,112]⟩,.string ⟨#[115,117,112,112,111,114,116]⟩,.string ⟨#[104,101,108,112]⟩]).alloc (.cells #[.string ⟨#[111,108,100]⟩,.string ⟨#[110,101,120,116]⟩,.slice (some ⟨W1.heap.size+1+1,0,none⟩) 3 3,.slice (some ⟨W1.heap.size+1+1+1,0,none⟩) 2 2,.slice none 0 0] 30)).alloc (.cells #[.int .i64 6] 3)).alloc (.cells #[.string ⟨#[115,117,112,112,111,114,116]⟩,.int .i64 9,.string ⟨#[97,105,100]⟩,.int .i64 7] 56)).alloc (.cells #[.string ⟨#[109]⟩,.int .i64 5,.slice none 0 0,.string ⟨#[111,108,100]⟩,.int .i64 1,.slice (some ⟨W1.heap.size+1+1+1+1+1,0,none⟩) 1 1,.slice (some ⟨W1.heap.size+1+1+1+1+1+1,0,none⟩) 2 2,.slice none 0 0] 27);rw [show ((((W1.alloc (.cells #[.string ⟨#[111,108,100]⟩,.slice p1 3 q1,.slice p2 2 q2] 34)).alloc (.cells #[.string ⟨#[110,101,120,116]⟩,.slice p3 4 q3,.slice p4 3 q4] 34)).alloc (.cells #[.int .i64 0,.int .i64 2,.int .i64 3] 3))).heap.size=W1.heap.size+1+1+1 from by simp] at k3;have k4:=(((Blk.new ((((W1.alloc (.cells #[.string ⟨#[111,108,100]⟩,.slice p1 3 q1,.slice p2 2 q2] 34)).alloc (.cells #[.string ⟨#[110,101,120,116]⟩,.slice p3 4 q3,.slice p4 3 q4] 34)).alloc (.cells #[.int .i64 0,.int .i64 2,.int .i64 3] 3)).alloc (.cells #[.string ⟨#[97,105,100]⟩,.string ⟨#[104,101,108,112]⟩,.string ⟨#[115,117,112,112,111,114,116]⟩,.string ⟨#[104,101,108,112]⟩] 75)) 30 #[.string ⟨#[111,108,100]⟩,.string ⟨#[110,101,120,116]⟩,.slice (some ⟨W1.heap.size+1+1,0,none⟩) 3 3,.slice (some ⟨W1.heap.size+1+1+1,0,none⟩) 2 2,.slice none 0 0]).alloc (.cells #[.int .i64 6] 3)).alloc (.cells #[.string ⟨#[115,117,112,112,111,114,116]⟩,.int .i64 9,.string ⟨#[97,105,100]⟩,.int .i64 7] 56)).alloc (.cells #[.string ⟨#[109]⟩,.int .i64 5,.slice none 0 0,.string ⟨#[111,108,100]⟩,.int .i64 1,.slice (some ⟨W1.heap.size+1+1+1+1+1,0,none⟩) 1 1,.slice (some ⟨W1.heap.size+1+1+1+1+1+1,0,none⟩) 2 2,.slice none 0 0] 27);rw [show (((((W1.alloc (.cells #[.string ⟨#[111,108,100]⟩,.slice p1 3 q1,.slice p2 2 q2] 34)).alloc (.cells #[.string ⟨#[110,101,120,116]⟩,.slice p3 4 q3,.slice p4 3 q4] 34)).alloc (.cells #[.int .i64 0,.int .i64 2,.int .i64 3] 3)).alloc (.cells #[.string ⟨#[97,105,100]⟩,.string ⟨#[104,101,108,112]⟩,.string ⟨#[115,117,112,112,111,114,116]⟩,.string ⟨#[104,101,108,112]⟩] 75))).heap.size=W1.heap.size+1+1+1+1 from by simp] at k4;have k5:=((Blk.new (((((W1.alloc (.cells #[.string ⟨#[111,108,100]⟩,.slice p1 3 q1,.slice p2 2 q2] 34)).alloc (.cells #[.string ⟨#[110,101,120,116]⟩,.slice p3 4 q3,.slice p4 3 q4] 34)).alloc (.cells #[.int .i64 0,.int .i64 2,.int .i64 3] 3)).alloc (.cells #[.string ⟨#[97,105,100]⟩,.string ⟨#[104,101,108,112]⟩,.string ⟨#[115,117,112,112,111,114,116]⟩,.string ⟨#[104,101,108,112]⟩] 75)).alloc (.cells #[.string ⟨#[111,108,100]⟩,.string ⟨#[110,101,120,116]⟩,.slice (some ⟨W1.heap.size+1+1,0,none⟩) 3 3,.slice (some ⟨W1.heap.size+1+1+1,0,none⟩) 2 2,.slice none 0 0] 30)) 3 #[.int .i64 6]).alloc (.cells #[.string ⟨#[115,117,112,112,111,114,116]⟩,.int .i64 9,.string ⟨#[97,105,100]⟩,.int .i64 7] 56)).alloc (.cells #[.string ⟨#[109]⟩,.int .i64 5,.slice none 0 0,.string ⟨#[111,108,100]⟩,.int .i64 1,.slice (some ⟨W1.heap.size+1+1+1+1+1,0,none⟩) 1 1,.slice (some ⟨W1.heap.size+1+1+1+1+1+1,0,none⟩) 2 2,.slice none 0 0] 27);rw [show ((((((W1.alloc (.cells #[.string ⟨#[111,108,100]⟩,.slice p1 3 q1,.slice p2 2 q2] 34)).alloc (.cells #[.string ⟨#[110,101,120,116]⟩,.slice p3 4 q3,.slice p4 3 q4] 34)).alloc (.cells #[.int .i64 0,.int .i64 2,.int .i64 3] 3)).alloc (.cells #[.string ⟨#[97,105,100]⟩,.string ⟨#[104,101,108,112]⟩,.string ⟨#[115,117,112,112,111,114,116]⟩,.string ⟨#[104,101,108,112]⟩] 75)).alloc (.cells #[.string ⟨#[111,108,100]⟩,.string ⟨#[110,101,120,116]⟩,.slice (some ⟨W1.heap.size+1+1,0,none⟩) 3 3,.slice (some ⟨W1.heap.size+1+1+1,0,none⟩) 2 2,.slice none 0 0] 30))).heap.size=W1.heap.size+1+1+1+1+1 from by simp] at k5;have k6:=(Blk.new ((((((W1.alloc (.cells #[.string ⟨#[111,108,100]⟩,.slice p1 3 q1,.slice p2 2 q2] 34)).alloc (.cells #[.string ⟨#[110,101,120,116]⟩,.slice p3 4 q3,.slice p4 3 q4] 34)).alloc (.cells #[.int .i64 0,.int .i64 2,.int .i64 3] 3)).alloc (.cells #[.string ⟨#[97,105,100]⟩,.string ⟨#[104,101,108,112]⟩,.string ⟨#[115,117,112,112,111,114,116]⟩,.string ⟨#[104,101,108,112]⟩] 75)).alloc (.cells #[.string ⟨#[111,108,100]⟩,.string ⟨#[110,101,120,116]⟩,.slice (some ⟨W1.heap.size+1+1,0,none⟩) 3 3,.slice (some ⟨W1.heap.size+1+1+1,0,none⟩) 2 2,.slice none 0 0] 30)).alloc (.cells #[.int .i64 6] 3)) 56 #[.string ⟨#[115,117,112,112,111,114,116]⟩,.int .i64 9,.string ⟨#[97,105,100]⟩,.int .i64 7]).alloc (.cells #[.string ⟨#[109]⟩,.int .i64 5,.slice none 0 0,.string ⟨#[111,108,100]⟩,.int .i64 1,.slice (some ⟨W1.heap.size+1+1+1+1+1,0,none⟩) 1 1,.slice (some ⟨W1.heap.size+1+1+1+1+1+1,0,none⟩) 2 2,.slice none 0 0] 27);rw [show (((((((W1.alloc (.cells #[.string ⟨#[111,108,100]⟩,.slice p1 3 q1,.slice p2 2 q2] 34)).alloc (.cells #[.string ⟨#[110,101,120,116]⟩,.slice p3 4 q3,.slice p4 3 q4] 34)).alloc (.cells #[.int .i64 0,.int .i64 2,.int .i64 3] 3)).alloc (.cells #[.string ⟨#[97,105,100]⟩,.string ⟨#[104,101,108,112]⟩,.string ⟨#[115,117,112,112,111,114,116]⟩,.string ⟨#[104,101,108,112]⟩] 75)).alloc (.cells #[.string ⟨#[111,108,100]⟩,.string ⟨#[110,101,120,116]⟩,.slice (some ⟨W1.heap.size+1+1,0,none⟩) 3 3,.slice (some ⟨W1.heap.size+1+1+1,0,none⟩) 2 2,.slice none 0 0] 30)).alloc (.cells #[.int .i64 6] 3))).heap.size=W1.heap.size+1+1+1+1+1+1 from by simp] at k6;have k7:=Blk.new (((((((W1.alloc (.cells #[.string ⟨#[111,108,100]⟩,.slice p1 3 q1,.slice p2 2 q2] 34)).alloc (.cells #[.string ⟨#[110,101,120,116]⟩,.slice p3 4 q3,.slice p4 3 q4] 34)).alloc (.cells #[.int .i64 0,.int .i64 2,.int .i64 3] 3)).alloc (.cells #[.string ⟨#[97,105,100]⟩,.string ⟨#[104,101,108,112]⟩,.string ⟨#[115,117,112,112,111,114,116]⟩,.string ⟨#[104,101,108,112]⟩] 75)).alloc (.cells #[.string ⟨#[111,108,100]⟩,.string ⟨#[110,101,120,116]⟩,.slice (some ⟨W1.heap.size+1+1,0,none⟩) 3 3,.slice (some ⟨W1.heap.size+1+1+1,0,none⟩) 2 2,.slice none 0 0] 30)).alloc (.cells #[.int .i64 6] 3)).alloc (.cells #[.string ⟨#[115,117,112,112,111,114,116]⟩,.int .i64 9,.string ⟨#[97,105,100]⟩,.int .i64 7] 56)) 27 #[.string ⟨#[109]⟩,.int .i64 5,.slice none 0 0,.string ⟨#[111,108,100]⟩,.int .i64 1,.slice (some ⟨W1.heap.size+1+1+1+1+1,0,none⟩) 1 1,.slice (some ⟨W1.heap.size+1+1+1+1+1+1,0,none⟩) 2 2,.slice none 0 0];rw [show ((((((((W1.alloc (.cells #[.string ⟨#[111,108,100]⟩,.slice p1 3 q1,.slice p2 2 q2] 34)).alloc (.cells #[.string ⟨#[110,101,120,116]⟩,.slice p3 4 q3,.slice p4 3 q4] 34)).alloc (.cells #[.int .i64 0,.int .i64 2,.int .i64 3] 3)).alloc (.cells #[.string ⟨#[97,105,100]⟩,.string ⟨#[104,101,108,112]⟩,.string ⟨#[115,117,112,112,111,114,116]⟩,.string ⟨#[104,101,108,112]⟩] 75)).alloc (.cells #[.string ⟨#[111,108,100]⟩,.string ⟨#[110,101,120,116]⟩,.slice (some ⟨W1.heap.size+1+1,0,none⟩) 3 3,.slice (some ⟨W1.heap.size+1+1+1,0,none⟩) 2 2,.slice none 0 0] 30)).alloc (.cells #[.int .i64 6] 3)).alloc (.cells #[.string ⟨#[115,117,112,112,111,114,116]⟩,.int .i64 9,.string ⟨#[97,105,100]⟩,.int .i64 7] 56))).heap.size=W1.heap.size+1+1+1+1+1+1+1 from by simp] at k7;generalize ((((((((W1.alloc (.cells #[.string ⟨#[111,108,100]⟩,.slice p1 3 q1,.slice p2 2 q2] 34)).alloc (.cells #[.string ⟨#[110,101,120,116]⟩,.slice p3 4 q3,.slice p4 3 q4] 34)).alloc (.cells #[.int .i64 0,.int .i64 2,.int .i64 3] 3)).alloc (.cells #[.string ⟨#[97,105,100]⟩,.string ⟨#[104,101,108,112]⟩,.string ⟨#[115,117,112,112,111,114,116]⟩,.string ⟨#[104,101,108,112]⟩] 75)).alloc (.cells #[.string ⟨#[111,108,100]⟩,.string ⟨#[110,101,120,116]⟩,.slice (some ⟨W1.heap.size+1+1,0,none⟩) 3 3,.slice (some ⟨W1.heap.size+1+1+1,0,none⟩) 2 2,.slice none 0 0] 30)).alloc (.cells #[.int .i64 6] 3)).alloc (.cells #[.string ⟨#[115,117,112,112,111,114,116]⟩,.int .i64 9,.string ⟨#[97,105,100]⟩,.int .i64 7] 56)).alloc (.cells #[.string ⟨#[109]⟩,.int .i64 5,.slice none 0 0,.string ⟨#[111,108,100]⟩,.int .i64 1,.slice (some ⟨W1.heap.size+1+1+1+1+1,0,none⟩) 1 1,.slice (some ⟨W1.heap.size+1+1+1+1+1+1,0,none⟩) 2 2,.slice none 0 0] 27))=W0 at *;have hP0:=(hP.below hb).wide hb.size;have hQ0:=(hQ.below hb).wide hb.size;have hb0:=b1.trans (hb.mono b1.size);have ha:=b1.size;generalize W1.heap.size=a at *;clear hP hQ hb b1
 have hM:MtAt W0 W0.heap.size hxM ⟨none,0,some ⟨a+1+1+1+1+1,0,none⟩,1,some ⟨a+1+1+1+1+1+1,0,none⟩,2,none,0,[]⟩:=by
  refine ⟨fun i v hi=>by simp [hxM] at hi,fun i v hi=>⟨a+1+1+1+1+1,0,rfl,k5.lt,?_⟩,fun i v hi=>⟨a+1+1+1+1+1+1,0,rfl,k6.lt,?_,?_⟩,LmsAt.nil _ _ _,rfl,by decide,by decide,?_⟩
  · rw [k5.cell]
    match i,hi with
    | 0,hi=>simp [hxM] at hi;subst hi;rfl
    | i+1,hi=>simp [hxM] at hi
  · rw [k6.cell]
    match i,hi with
    | 0,hi=>simp [hxM] at hi;subst hi;rfl
    | 1,hi=>simp [hxM] at hi;subst hi;rfl
    | i+2,hi=>simp [hxM] at hi
  · rw [k6.cell]
    match i,hi with
    | 0,hi=>simp [hxM] at hi;subst hi;rfl
    | 1,hi=>simp [hxM] at hi;subst hi;rfl
    | i+2,hi=>simp [hxM] at hi
  · intro r hr
    simp only [hxM,List.mem_cons,List.not_mem_nil,or_false] at hr;rcases hr with rfl | rfl <;> decide
 have hmg:∀ (W:World) (st:List Int) (b:Nat),Below W0.heap.size W0 W→IntsAt W W.heap.size (some ⟨b,0,none⟩) st→MgAt W W.heap.size ⟨oldS,nextS,st,[(aidS,helpS),(supS,helpS)],[]⟩ ⟨some ⟨b,0,none⟩,3,some ⟨a+1+1+1,0,none⟩,2,none,0,[]⟩:=by
  intro W st b hW hst;have k3':=k3.below hW k3.lt;refine ⟨hst,fun i v hi=>⟨a+1+1+1,0,rfl,k3'.lt,?_,?_⟩,LmsAt.nil _ _ _,rfl,(by show oldS.size≤_;decide),(by show nextS.size≤_;decide),?_⟩
  · rw [k3'.cell]
    match i,hi with
    | 0,hi=>simp at hi;subst hi;rfl
    | 1,hi=>simp at hi;subst hi;rfl
    | i+2,hi=>simp at hi
  · rw [k3'.cell]
    match i,hi with
    | 0,hi=>simp at hi;subst hi;rfl
    | 1,hi=>simp at hi;subst hi;rfl
    | i+2,hi=>simp at hi
  · intro r hr
    simp only [List.mem_cons,List.not_mem_nil,or_false] at hr;rcases hr with rfl | rfl <;> decide
 have hi3:∀ (W:World) (b:Nat) (x y z:Int),Blk W b 3 #[.int .i64 x,.int .i64 y,.int .i64 z]→IntsAt W W.heap.size (some ⟨b,0,none⟩) [x,y,z]:=by
  intro W b x y z hk i v hi;refine ⟨b,0,rfl,hk.lt,?_⟩;rw [hk.cell]
  match i,hi with
  | 0,hi=>simp at hi;subst hi;rfl
  | 1,hi=>simp at hi;subst hi;rfl
  | 2,hi=>simp at hi;subst hi;rfl
  | i+3,hi=>simp at hi
 have hG:MgAt W0 W0.heap.size hxG ⟨some ⟨a+1+1,0,none⟩,3,some ⟨a+1+1+1,0,none⟩,2,none,0,[]⟩:=hmg W0 _ _ (Below.refl _ _) (hi3 _ _ _ _ _ k2);have sM:Sml hxM:=by unfold Sml;decide
 have sG:SmlG hxG:=by unfold SmlG;decide
 have sN:SmlG hxN:=by unfold SmlG;decide
 have sP:SmlP exP:=by unfold SmlP;decide
 have sQ:SmlP exQ:=by unfold SmlP;decide
 have sL:SmlP hxL:=by unfold SmlP;decide
 have htb:=fun W (hW:Below W0.heap.size W0 W)=>HT.out.below (hb0.trans (hW.mono hb0.size))
 have c1:∀ W,Below W0.heap.size W0 W→Calls Tryz.prog 12 #[.agg #[.string ⟨#[109]⟩,.int .i64 5,.slice none 0 0,.string ⟨#[111,108,100]⟩,.int .i64 1,.slice (some ⟨a+1+1+1+1+1,0,none⟩) 1 1,.slice (some ⟨a+1+1+1+1+1+1,0,none⟩) 2 2,.slice none 0 0],.agg #[.string ⟨#[111,108,100]⟩,.string ⟨#[110,101,120,116]⟩,.slice (some ⟨a+1+1,0,none⟩) 3 3,.slice (some ⟨a+1+1+1,0,none⟩) 2 2,.slice none 0 0],.agg #[.string ⟨#[111,108,100]⟩,.slice p1 3 q1,.slice p2 2 q2],.agg #[.string ⟨#[110,101,120,116]⟩,.slice p3 4 q3,.slice p4 3 q4],.int .i64 10,.slice none 0 0] W (MtPost W 0 hxA):=fun W hW=>by
  have k:=gapply_any W (htb W hW) W0.heap.size hxM _ (hM.below hW) hW.size sM hxG _ (hG.below hW) sG exP _ (hP0.below hW) sP exQ _ (hQ0.below hW) sQ 10 none [] 0 (fun i v hi=>by simp at hi) (by decide) (by simp);rw [hx_ap1.1,hx_ap1.2] at k;exact k
 have c2:∀ W b,Below W0.heap.size W0 W→Blk W b 3 #[.int .i64 0,.int .i64 (-1),.int .i64 3]→Calls Tryz.prog 12 #[.agg #[.string ⟨#[109]⟩,.int .i64 5,.slice none 0 0,.string ⟨#[111,108,100]⟩,.int .i64 1,.slice (some ⟨a+1+1+1+1+1,0,none⟩) 1 1,.slice (some ⟨a+1+1+1+1+1+1,0,none⟩) 2 2,.slice none 0 0],.agg #[.string ⟨#[111,108,100]⟩,.string ⟨#[110,101,120,116]⟩,.slice (some ⟨b,0,none⟩) 3 3,.slice (some ⟨a+1+1+1,0,none⟩) 2 2,.slice none 0 0],.agg #[.string ⟨#[111,108,100]⟩,.slice p1 3 q1,.slice p2 2 q2],.agg #[.string ⟨#[110,101,120,116]⟩,.slice p3 4 q3,.slice p4 3 q4],.int .i64 10,.slice none 0 0] W (MtPost W 12 Mt.zero):=fun W b hW hb=>by
  have k:=gapply_any W (htb W hW) W.heap.size hxM _ ((hM.below hW).wide hW.size) (Nat.le_refl _) sM hxN _ (hmg W _ b hW (hi3 _ _ _ _ _ hb)) sN exP _ ((hP0.below hW).wide hW.size) sP exQ _ ((hQ0.below hW).wide hW.size) sQ 10 none [] 0 (fun i v hi=>by simp at hi) (by decide) (by simp);rw [hx_ap2.1,hx_ap2.2] at k;exact k
 have c3:∀ W,Below W0.heap.size W0 W→Calls Tryz.prog 12 #[.agg #[.string ⟨#[109]⟩,.int .i64 5,.slice none 0 0,.string ⟨#[111,108,100]⟩,.int .i64 1,.slice (some ⟨a+1+1+1+1+1,0,none⟩) 1 1,.slice (some ⟨a+1+1+1+1+1+1,0,none⟩) 2 2,.slice none 0 0],.agg #[.string ⟨#[111,108,100]⟩,.string ⟨#[110,101,120,116]⟩,.slice (some ⟨a+1+1,0,none⟩) 3 3,.slice (some ⟨a+1+1+1,0,none⟩) 2 2,.slice none 0 0],.agg #[.string ⟨#[111,108,100]⟩,.slice p1 3 q1,.slice p2 2 q2],.agg #[.string ⟨#[110,101,120,116]⟩,.slice p3 4 q3,.slice p4 3 q4],.int .i64 5,.slice none 0 0] W (MtPost W 24 Mt.zero):=fun W hW=>by
  have k:=gapply_any W (htb W hW) W0.heap.size hxM _ (hM.below hW) hW.size sM hxG _ (hG.below hW) sG exP _ (hP0.below hW) sP exQ _ (hQ0.below hW) sQ 5 none [] 0 (fun i v hi=>by simp at hi) (by decide) (by simp);rw [hx_ap3.1,hx_ap3.2] at k;exact k
 have c4:∀ W b,Below W0.heap.size W0 W→Blk W b 76 #[.int .i64 0,.int .i64 1,.int .i64 1,.int .i64 0,.int .i64 2,.int .i64 3]→Calls Tryz.prog 17 #[.agg #[.string ⟨#[111,108,100]⟩,.string ⟨#[110,101,120,116]⟩,.slice (some ⟨a+1+1,0,none⟩) 3 3,.slice (some ⟨a+1+1+1,0,none⟩) 2 2,.slice none 0 0],.agg #[.string ⟨#[111,108,100]⟩,.slice p1 3 q1,.slice p2 2 q2],.agg #[.string ⟨#[110,101,120,116]⟩,.slice p3 4 q3,.slice (some ⟨b,0,none⟩) 3 3]] W fun e w'=>∃ A c,e = .returned (.slice A 1 c)∧IntsAt w' w'.heap.size A [0]∧Below W.heap.size W w':=fun W b hW hb=>by
  have hL:PcAt W W.heap.size hxL ⟨p3,q3,some ⟨b,0,none⟩,3⟩:=by
   have hq:=(hQ0.below hW).wide hW.size;refine ⟨hq.ss,fun i s hi=>⟨b,0,rfl,hb.lt,?_⟩,hq.nm,hq.sn⟩;rw [hb.cell,hb.cell]
   match i,hi with
   | 0,hi=>simp [hxL] at hi;subst hi;exact ⟨rfl,rfl⟩
   | 1,hi=>simp [hxL] at hi;subst hi;exact ⟨rfl,rfl⟩
   | 2,hi=>simp [hxL] at hi;subst hi;exact ⟨rfl,rfl⟩
   | i+3,hi=>simp [hxL] at hi
  have k:=gstuck_any W (htb W hW) W.heap.size hxG _ ((hG.below hW).wide hW.size) (Nat.le_refl _) sG exP _ ((hP0.below hW).wide hW.size) sP hxL _ hL sL;rw [hx_stuck] at k;exact k
 have c5:∀ W,Below W0.heap.size W0 W→Calls Tryz.prog 18 #[.agg #[.string ⟨#[111,108,100]⟩,.string ⟨#[110,101,120,116]⟩,.slice (some ⟨a+1+1,0,none⟩) 3 3,.slice (some ⟨a+1+1+1,0,none⟩) 2 2,.slice none 0 0],.agg #[.string ⟨#[111,108,100]⟩,.slice p1 3 q1,.slice p2 2 q2],.agg #[.string ⟨#[110,101,120,116]⟩,.slice p3 4 q3,.slice p4 3 q4]] W fun e w'=>e = .returned (.bool true)∧Below W.heap.size W w':=fun W hW=>by
  have k:=gvalid_any W (htb W hW) W0.heap.size hxG _ (hG.below hW) hW.size sG exP _ (hP0.below hW) sP exQ _ (hQ0.below hW) sQ;rw [hx_v1] at k;exact k
 have c6:∀ W,Below W0.heap.size W0 W→Calls Tryz.prog 18 #[.agg #[.string ⟨#[111,108,100]⟩,.string ⟨#[110,101,120,116]⟩,.slice (some ⟨a+1+1,0,none⟩) 3 3,.slice (some ⟨a+1+1+1,0,none⟩) 2 2,.slice none 0 0],.agg #[.string ⟨#[110,101,120,116]⟩,.slice p3 4 q3,.slice p4 3 q4],.agg #[.string ⟨#[111,108,100]⟩,.slice p1 3 q1,.slice p2 2 q2]] W fun e w'=>e = .returned (.bool false)∧Below W.heap.size W w':=fun W hW=>by
  have k:=gvalid_any W (htb W hW) W0.heap.size hxG _ (hG.below hW) hW.size sG exQ _ (hQ0.below hW) sQ exP _ (hP0.below hW) sP;rw [hx_v2] at k;exact k
 have C1:=hd_ c1;have C2:=hd_ c2;have C3:=hd_ c3;have C4:=hd_ c4;have C5:=hd_ c5;have C6:=hd_ c6;have HB0:=hd_ hb0;have K0:=hd_ k0;have K1:=hd_ k1;have K4:=hd_ k4;have K7:=hd_ k7;obtain ⟨s0,s1,s2⟩:=k0.all;obtain ⟨t0,t1,t2⟩:=k1.all;obtain ⟨u0,u1,u2⟩:=k4.all;obtain ⟨v0,v1,v2⟩:=k7.all;clear c1 c2 c3 c4 c5 c6 hb0 k0 k1 k2 k3 k4 k5 k6 k7 hM hmg hi3 hG sM sG sN sP sQ sL htb hP0 hQ0 HT hsz;go_wp2_with fail
 refine (C1.out W0 (Below.refl _ _)).mono ?_;rintro e W2 ⟨⟨x1,y1,x2,y2,x3,y3,x4,y4,lw⟩,he,hmt,b2⟩;obtain rfl:e = .returned (.tuple #[.agg #[.string ⟨#[109]⟩,.int .i64 5,.slice x1 0 y1,.string ⟨#[110,101,120,116]⟩,.int .i64 2,.slice x2 1 y2,.slice x3 1 y3,.slice x4 0 y4],.int .i64 0]):=he;obtain ⟨g3,o3,hA3,hg3,rc0,rc1⟩:=hmt.rs 0 (helpS,7) rfl;subst hA3;clear hmt s0 s1 s2 t0 t1 t2 u0 u1 u2 v0 v1 v2;have BW:=hd_ b2;obtain ⟨u0,u1,u2⟩:=(K4.out.below BW.out K4.out.lt).all;go_upto_region 5 with fail
 have q0:=below_self_alloc W2 (.cells #[.string ⟨#[109]⟩,.int .i64 5,.slice x1 0 y1,.string ⟨#[110,101,120,116]⟩,.int .i64 2,.slice x2 1 y2,.slice (some ⟨g3,o3,none⟩) 1 y3,.slice x4 0 y4] 27);have B2:=hd_ q0;have KT5:=hd_ (Blk.new W2 27 #[.string ⟨#[109]⟩,.int .i64 5,.slice x1 0 y1,.string ⟨#[110,101,120,116]⟩,.int .i64 2,.slice x2 1 y2,.slice (some ⟨g3,o3,none⟩) 1 y3,.slice x4 0 y4]);replace BW:=hd_ (BW.out.trans (q0.mono BW.out.size));generalize W2.alloc (.cells #[.string ⟨#[109]⟩,.int .i64 5,.slice x1 0 y1,.string ⟨#[110,101,120,116]⟩,.int .i64 2,.slice x2 1 y2,.slice (some ⟨g3,o3,none⟩) 1 y3,.slice x4 0 y4] 27)=X at *;clear q0 u0 u1 u2;obtain ⟨u0,u1,u2⟩:=(K4.out.below BW.out K4.out.lt).all;have q1:=below_self_alloc X (.cells #[.string ⟨#[111,108,100]⟩,.string ⟨#[110,101,120,116]⟩,.slice (some ⟨X.heap.size+1,0,none⟩) 3 3,.slice (some ⟨a+1+1+1,0,none⟩) 2 2,.slice none 0 0] 30);have z1:(X.alloc (.cells #[.string ⟨#[111,108,100]⟩,.string ⟨#[110,101,120,116]⟩,.slice (some ⟨X.heap.size+1,0,none⟩) 3 3,.slice (some ⟨a+1+1+1,0,none⟩) 2 2,.slice none 0 0] 30)).heap.size=X.heap.size+1:=by simp
 have q2:=q1.alloc q1.size (.cells #[.int .i64 0,.int .i64 (-1),.int .i64 3] 3);have kt8:=(Blk.new X 30 #[.string ⟨#[111,108,100]⟩,.string ⟨#[110,101,120,116]⟩,.slice (some ⟨X.heap.size+1,0,none⟩) 3 3,.slice (some ⟨a+1+1+1,0,none⟩) 2 2,.slice none 0 0]).alloc (.cells #[.int .i64 0,.int .i64 (-1),.int .i64 3] 3);have ki2:=Blk.new (X.alloc (.cells #[.string ⟨#[111,108,100]⟩,.string ⟨#[110,101,120,116]⟩,.slice (some ⟨X.heap.size+1,0,none⟩) 3 3,.slice (some ⟨a+1+1+1,0,none⟩) 2 2,.slice none 0 0] 30)) 3 #[.int .i64 0,.int .i64 (-1),.int .i64 3];rw [z1] at ki2;go_upto_region 7 with fail
 generalize (X.alloc (.cells #[.string ⟨#[111,108,100]⟩,.string ⟨#[110,101,120,116]⟩,.slice (some ⟨X.heap.size+1,0,none⟩) 3 3,.slice (some ⟨a+1+1+1,0,none⟩) 2 2,.slice none 0 0] 30)).alloc (.cells #[.int .i64 0,.int .i64 (-1),.int .i64 3] 3)=X3 at *;replace BW:=hd_ (BW.out.trans (q2.mono BW.out.size));replace KT5:=hd_ (KT5.out.below q2 KT5.out.lt);replace B2:=hd_ (B2.out.trans (q2.mono B2.out.size));have HC:=hd_ (C2.out X3 _ BW.out ki2);clear u0 u1 u2 q1 q2 ki2;obtain ⟨s0,s1,s2⟩:=(K0.out.below BW.out K0.out.lt).all;obtain ⟨t0,t1,t2⟩:=(K1.out.below BW.out K1.out.lt).all;obtain ⟨u0,u1,u2⟩:=kt8.all;obtain ⟨v0,v1,v2⟩:=(K7.out.below BW.out K7.out.lt).all;clear kt8 z1;go_wp2_with fail
 refine HC.out.mono ?_;rintro e W4 ⟨⟨x5,y5,x6,y6,x7,y7,x8,y8,lw2⟩,he,-,b4⟩;obtain rfl:e = .returned (.tuple #[.agg #[.string ⟨#[]⟩,.int .i64 0,.slice x5 0 y5,.string ⟨#[]⟩,.int .i64 0,.slice x6 0 y6,.slice x7 0 y7,.slice x8 0 y8],.int .i64 12]):=he;clear HC s0 s1 s2 t0 t1 t2 u0 u1 u2 v0 v1 v2;go_upto_region 8 with fail
 replace b4:=b4.trans ((below_self_alloc W4 (.cells #[.string ⟨#[]⟩,.int .i64 0,.slice x5 0 y5,.string ⟨#[]⟩,.int .i64 0,.slice x6 0 y6,.slice x7 0 y7,.slice x8 0 y8] 27)).mono b4.size);generalize W4.alloc (.cells #[.string ⟨#[]⟩,.int .i64 0,.slice x5 0 y5,.string ⟨#[]⟩,.int .i64 0,.slice x6 0 y6,.slice x7 0 y7,.slice x8 0 y8] 27)=X4 at *;replace BW:=hd_ (BW.out.trans (b4.mono BW.out.size));replace KT5:=hd_ (KT5.out.below b4 KT5.out.lt);replace B2:=hd_ (B2.out.trans (b4.mono B2.out.size));clear b4;obtain ⟨s0,s1,s2⟩:=(K0.out.below BW.out K0.out.lt).all;obtain ⟨t0,t1,t2⟩:=(K1.out.below BW.out K1.out.lt).all;obtain ⟨u0,u1,u2⟩:=(K4.out.below BW.out K4.out.lt).all;obtain ⟨v0,v1,v2⟩:=(K7.out.below BW.out K7.out.lt).all;go_wp2_with fail
 refine (C3.out X4 BW.out).mono ?_;rintro e W6 ⟨⟨x5',y5',x6',y6',x7',y7',x8',y8',lw3⟩,he,-,b4⟩;obtain rfl:e = .returned (.tuple #[.agg #[.string ⟨#[]⟩,.int .i64 0,.slice x5' 0 y5',.string ⟨#[]⟩,.int .i64 0,.slice x6' 0 y6',.slice x7' 0 y7',.slice x8' 0 y8'],.int .i64 24]):=he;clear s0 s1 s2 t0 t1 t2 u0 u1 u2 v0 v1 v2;go_upto_region 9 with fail
 replace b4:=b4.trans ((below_self_alloc W6 (.cells #[.string ⟨#[]⟩,.int .i64 0,.slice x5' 0 y5',.string ⟨#[]⟩,.int .i64 0,.slice x6' 0 y6',.slice x7' 0 y7',.slice x8' 0 y8'] 27)).mono b4.size);generalize W6.alloc (.cells #[.string ⟨#[]⟩,.int .i64 0,.slice x5' 0 y5',.string ⟨#[]⟩,.int .i64 0,.slice x6' 0 y6',.slice x7' 0 y7',.slice x8' 0 y8'] 27)=Y at *;replace BW:=hd_ (BW.out.trans (b4.mono BW.out.size));replace KT5:=hd_ (KT5.out.below b4 KT5.out.lt);replace B2:=hd_ (B2.out.trans (b4.mono B2.out.size));clear b4;obtain ⟨t0,t1,t2⟩:=(K1.out.below BW.out K1.out.lt).all;have q1:=below_self_alloc Y (.cells #[.string ⟨#[110,101,120,116]⟩,.slice p3 4 q3,.slice (some ⟨Y.heap.size+1,0,none⟩) 3 3] 34);have z1:(Y.alloc (.cells #[.string ⟨#[110,101,120,116]⟩,.slice p3 4 q3,.slice (some ⟨Y.heap.size+1,0,none⟩) 3 3] 34)).heap.size=Y.heap.size+1:=by simp
 have q2:=q1.alloc q1.size (.cells #[.int .i64 0,.int .i64 1,.int .i64 1,.int .i64 0,.int .i64 2,.int .i64 3] 76);have kt8:=(Blk.new Y 34 #[.string ⟨#[110,101,120,116]⟩,.slice p3 4 q3,.slice (some ⟨Y.heap.size+1,0,none⟩) 3 3]).alloc (.cells #[.int .i64 0,.int .i64 1,.int .i64 1,.int .i64 0,.int .i64 2,.int .i64 3] 76);have ki2:=Blk.new (Y.alloc (.cells #[.string ⟨#[110,101,120,116]⟩,.slice p3 4 q3,.slice (some ⟨Y.heap.size+1,0,none⟩) 3 3] 34)) 76 #[.int .i64 0,.int .i64 1,.int .i64 1,.int .i64 0,.int .i64 2,.int .i64 3];rw [z1] at ki2;go_upto_region 11 with fail
 generalize (Y.alloc (.cells #[.string ⟨#[110,101,120,116]⟩,.slice p3 4 q3,.slice (some ⟨Y.heap.size+1,0,none⟩) 3 3] 34)).alloc (.cells #[.int .i64 0,.int .i64 1,.int .i64 1,.int .i64 0,.int .i64 2,.int .i64 3] 76)=Y3 at *;replace BW:=hd_ (BW.out.trans (q2.mono BW.out.size));replace KT5:=hd_ (KT5.out.below q2 KT5.out.lt);replace B2:=hd_ (B2.out.trans (q2.mono B2.out.size));have HC:=hd_ (C4.out Y3 _ BW.out ki2);clear t0 t1 t2 q1 q2 ki2;obtain ⟨s0,s1,s2⟩:=(K0.out.below BW.out K0.out.lt).all;obtain ⟨t0,t1,t2⟩:=kt8.all;obtain ⟨u0,u1,u2⟩:=(K4.out.below BW.out K4.out.lt).all;clear kt8 z1;go_wp2_with fail
 refine HC.out.mono ?_;rintro e W8 ⟨AS,cS,rfl,hst,b4⟩;clear HC s0 s1 s2 t0 t1 t2 u0 u1 u2;replace BW:=hd_ (BW.out.trans (b4.mono BW.out.size));replace KT5:=hd_ (KT5.out.below b4 KT5.out.lt);replace B2:=hd_ (B2.out.trans (b4.mono B2.out.size));have HST:=hd_ hst;clear b4 hst;obtain ⟨v0,v1,v2⟩:=KT5.out.all;have p0:=(B2.out.cell (p:=⟨g3,o3+0*2,none⟩) hg3).trans rc0;have p1:=(B2.out.cell (p:=⟨g3,o3+0*2+1,none⟩) hg3).trans rc1;simp only [Nat.zero_mul,Nat.add_zero] at p0 p1;replace p0:W8.cell? ⟨g3,o3,none⟩=some (.string ⟨#[104,101,108,112]⟩):=p0;replace p1:W8.cell? ⟨g3,o3+1,none⟩=some (.int .i64 7):=p1;go_upto_region 14 with fail
 have heq:∀ W:World,(Op.equalIn 10000 56 (.agg #[.string ⟨#[104,101,108,112]⟩,.int .i64 7]) (.agg #[.string ⟨#[104,101,108,112]⟩,.int .i64 7])).run Tryz.prog W = .ok true W:=fun W=>by simp [go_sem]
 have qz:=below_self_alloc W8 (.cells #[.int .i64 0] 3);have kz:=Blk.new W8 3 #[.int .i64 0];have hin:=rints32_any (W8.alloc (.cells #[.int .i64 0] 3)) (W8.alloc (.cells #[.int .i64 0] 3)).heap.size AS (some ⟨W8.heap.size,0,none⟩) [0] [0] cS 1 ((HST.out.below qz).wide qz.size) (fun i v hi=>⟨W8.heap.size,0,rfl,kz.lt,by rw [kz.cell];match i,hi with | 0,hi=>simp at hi;subst hi;rfl | i+1,hi=>simp at hi⟩) (Nat.le_refl _) (by decide);rw [decide_eq_true (show ([0]:List Int)=[0] from rfl)] at hin;have HIN:=hd_ hin;have QZ:=hd_ qz;clear hin qz kz;go_wp2_with fail
 refine HIN.out.mono ?_;rintro e W9 ⟨rfl,b9⟩;replace BW:=hd_ (BW.out.trans ((QZ.out.trans (b9.mono QZ.out.size)).mono BW.out.size));clear b9 v0 v1 v2 p0 p1 rc0 rc1 HIN QZ HST KT5 B2;obtain ⟨s0,s1,s2⟩:=(K0.out.below BW.out K0.out.lt).all;obtain ⟨t0,t1,t2⟩:=(K1.out.below BW.out K1.out.lt).all;obtain ⟨u0,u1,u2⟩:=(K4.out.below BW.out K4.out.lt).all;go_wp2_with fail
 refine (C5.out W9 BW.out).mono ?_;rintro e Wa ⟨rfl,ba⟩;replace BW:=hd_ (BW.out.trans (ba.mono BW.out.size));clear ba s0 s1 s2 t0 t1 t2 u0 u1 u2;obtain ⟨s0,s1,s2⟩:=(K0.out.below BW.out K0.out.lt).all;obtain ⟨t0,t1,t2⟩:=(K1.out.below BW.out K1.out.lt).all;obtain ⟨u0,u1,u2⟩:=(K4.out.below BW.out K4.out.lt).all;go_wp2_with fail
 refine (C6.out Wa BW.out).mono ?_;rintro e Wb ⟨rfl,bb⟩;have HE:=hd_ (HB0.out.trans ((BW.out.trans (bb.mono BW.out.size)).mono HB0.out.size));clear bb s0 s1 s2 t0 t1 t2 u0 u1 u2;go_wp2
 go_ret
 exact ⟨rfl,HE.out⟩
end Go.Proofs.YtknchlpcpgflkaaGreatDoor
